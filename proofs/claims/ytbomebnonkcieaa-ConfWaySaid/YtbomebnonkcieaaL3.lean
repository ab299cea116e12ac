import Derived.Test.YtbomebnonkcieaaL1
import Derived.Test.YtbomebnonkcieaaD5
namespace Go.Proofs.Ytbomebnonkcieaa
open Go.RowKit Go.Mem Go.Draw

/-! ### the plain law of ConfWay -/
theorem nodup_of {n : Int} {t : List Int} (h : mayC n t = true) : t.Nodup ∧ 1 ≤ t.length ∧ t.length ≤ 5 := by
  have := of_decide_eq_true h
  exact ⟨this.2.2.2.2.2, this.2.2.1, this.2.2.2.1⟩
theorem idx_at {t : List Int} (hd : t.Nodup) {k : Nat} {y : Int} (hy : t[k]? = some y) : idx y t 0 = k :=
  (take_idx hy).1 (by
    obtain ⟨hk, e⟩ := List.getElem?_eq_some_iff.1 hy
    subst e
    simp only [hasI]
    rw [Bool.eq_false_iff]
    simp only [ne_eq, List.contains_iff_mem]
    intro hm
    obtain ⟨i, hi, he⟩ := List.getElem_of_mem hm
    simp at hi
    rw [List.getElem_take] at he
    have := (List.getElem_inj hd).1 he
    omega)
theorem way_next {t : List Int} (hd : t.Nodup) {k : Nat} {y : Int} (hy : t[k]? = some y) : sideC t y 1 = getI t (k + 1 : Nat) := by
  unfold sideC
  rw [idx_at hd hy, if_neg (by omega)]
  rfl
theorem way_prev {t : List Int} (hd : t.Nodup) {k : Nat} {y z : Int} (hy : t[k + 1]? = some y) (hz : t[k]? = some z) : sideC t y (-1) = z := by
  unfold sideC
  rw [idx_at hd hy, if_neg (by omega), show ((k + 1 : Nat) : Int) + -1 = (k : Nat) by omega]
  exact getI_at hz
theorem way_first {t : List Int} (hd : t.Nodup) {y : Int} (hy : t[0]? = some y) : sideC t y (-1) = 0 := by
  unfold sideC
  rw [idx_at hd hy, if_neg (by omega)]
  exact getI_neg (by omega)

set_option maxHeartbeats 1600000 in
theorem confWay_yes (n : Int) (v : Value) (l : List Int) (w : World) (h : SlI w v l) :
    Calls Try.prog 4 #[.int .i64 n, v] w fun e w' => e = .returned (.bool true) ∧ New w w' := by
  obtain ⟨i0, hi0, hz0, hz1, hz2⟩ := info_parts Try.info3
  have hc : ∃ ao cap, v = .slice ao l.length cap ∧ l.length ≤ cap := by obtain ⟨ao, cap, rfl, h1, _⟩ := h; exact ⟨ao, cap, by simp, h1⟩
  obtain ⟨ao, cap, rfl, hcap⟩ := hc
  obtain ⟨t, hmin, ht5, htl, H⟩ := first_of 6 6 rfl h
  have htl' : (t.length : Int) ≤ (l.length : Int) := by omega
  have htc : t.length ≤ cap := by omega
  clear h
  go_enter Try.func4, Try.ntmps4
  go_wp2_with fail
  refine (begun_yes _).mono ?_
  rintro e w1 ⟨rfl, hn1⟩
  have HN := Lib.hid hn1
  have g1 := hn1.size
  clear hn1
  go_wp2_with (first
      | (at_builtin
         refine wpList_append_sl rfl (.const (.slice none 0 0)) (.tmp 17) 22 rfl w1.heap.size 3 i0 (.int .i64 0) 1 8 Try.underlying22 hi0 hz0 hz1 hz2 rfl (by decide) (.slice none 0 0) 0 [] rfl (World.ownsRow_nil _ _ _ _)
           (.slice ao t.length cap) t.length (t.map (Value.int .i64)) rfl (H.out.new HN.out) (by simp) (ints_oneCell _ _) (by unfold maxLen; omega) (by omega) (Nat.le_refl _) ?_
         intro v2 w2 hO2 hG2 _
         rw [Nat.zero_add, List.nil_append] at hO2
         obtain ⟨ao2, cap2, rfl⟩ := owns_shape hO2
         have HO2 := Lib.hid hO2
         have HG2 := Lib.hid (New.of_grown hG2)
         clear hO2 hG2))
  have g2 : w.heap.size ≤ w2.heap.size := by have := HG2.out.size; omega
  obtain ⟨W, hW⟩ : ∃ W, W = w2.alloc (.cells #[.int .i64 n, .slice ao2 t.length cap2] 25) := ⟨_, rfl⟩
  have HC : Hid (SlI W (.slice ao2 t.length cap2) t) := by subst hW; exact (SlI.of_owns HO2.out rfl (by omega)).alloc _
  have HL : Hid (Held [(w2.heap.size, .cells #[.int .i64 n, .slice ao2 t.length cap2] 25)] W) := by subst hW; exact (Held.nil _).alloc _
  have HB : Hid (Below w.heap.size w W) := by subst hW; exact (HN.out.step HG2.out g1).alloc g2 _
  rw [← hW]
  clear hW HO2 HG2 H
  have gA : w.heap.size ≤ W.heap.size := HB.out.size
  obtain ⟨c0, c1⟩ := Held.two HL List.mem_cons_self
  have lc := HL.out.lt List.mem_cons_self
  dsimp only at lc
  cases m1 : mayC n t
  · have M1 := Lib.hid m1
    clear m1
    refine (may_is n _ t _ HC.out false M1.out).mono ?_
    rintro e w3 ⟨rfl, hn3⟩
    obtain ⟨q1, q2⟩ := New.cells hn3
    have HN3 := Lib.hid hn3
    clear hn3
    go_wp2_with fail
    refine (mayConf_is n _ t _ (HC.out.new HN3.out) false M1.out).mono ?_
    rintro e w4 ⟨rfl, hn4⟩
    have HN4 := Lib.hid hn4
    clear hn4
    go_wp2_with fail
    go_ret
    exact ⟨rfl, HB.out.step (New.trans HN3.out HN4.out) gA⟩
  · have hnd := nodup_of m1
    obtain ⟨hnd, ht1, ht2⟩ := hnd
    have HND := Lib.hid hnd
    have M1 := Lib.hid m1
    clear m1 hnd
    obtain ⟨_, _, he, _, _, _, hx⟩ := HC.out.open
    cases he
    obtain ⟨b, o, y0, rfl, hck0, hy0⟩ := hx.out 0 (by omega)
    have hb0 := World.block_lt_of_cell? W _ hck0
    dsimp only at hb0
    refine (may_is n _ t _ HC.out true M1.out).mono ?_
    rintro e w3 ⟨rfl, hn3⟩
    obtain ⟨q1, q2⟩ := New.cells hn3
    have HN3 := Lib.hid hn3
    clear hn3
    go_wp2_with fail
    refine (head_is n _ t _ (HC.out.new HN3.out) y0 (getI_at hy0.out)).mono ?_
    rintro e w4 ⟨rfl, hn4⟩
    have HN4 := Lib.hid (New.trans HN3.out hn4)
    clear hn4 q1 q2
    go_wp2_with fail
    go_loopw [7, 8] (fun id i w' => ∃ k : Nat, k ≤ t.length ∧ i = .int .i64 k ∧ id = .int .i64 (getI t k) ∧ Hid (New W w')) (fun _ i _ => t.length - (intOf i).toNat)
    case atStart => exact ⟨0, Nat.zero_le _, rfl, by rw [← getI_at hy0.out], HN4.out⟩
    case round =>
      rename_i wr
      obtain ⟨k, hk, rfl, rfl, hNr⟩ := hrel
      obtain ⟨r1, r2⟩ := hNr.out.cells
      by_cases hlt : k < t.length
      · obtain ⟨b', o', y, he, hck, hy⟩ := hx.out k hlt
        cases he
        have hgy : getI t k = y := getI_at hy.out
        rw [hgy]
        clear hgy
        have hblk := World.block_lt_of_cell? W _ hck
        dsimp only at hblk
        have hne : (y != y) = false := by simp
        have hk0 : (0 : Int) ≤ (k : Int) := by omega
        have hk1 : (k : Int) < (t.length : Int) := by omega
        have hk2 : IntKind.i64.wrap ((k : Int) + 1) = (k : Int) + 1 := by rw [IntKind.wrap_i64]; omega
        have hnr : New W wr.drew := hNr.out.drew
        by_cases hz : k = 0
        · subst hz
          rw [Nat.add_zero] at hck
          clear hk0 hk1 hk2
          go_wp2_with fail
          refine wp_plan (.take 0 (.take 1 (.take 2 (.take 3 (.take 4 (.take 5 (.take 6 (.take 7 (.take 8 (.take 9 (.take 10 (.take 11 (.take 12 (.take 14 (.take 15 (.take 16 (.take 17 (.take 18 (.take 19 (.eff 13 (.take 20 (.take 21 (.take 22 (.done)))))))))))))))))))))))) (New W) (by kernel_rfl) (by kernel_rfl) hnr ?_
          go_wp2_with (first
              | (refine q_skipW rfl rfl rfl rfl rfl (fun K hK => ?_))
              | (refine q_eskipW rfl rfl rfl rfl (by assumption) rfl (fun K hK => ?_))
              | (refine q_silent rfl rfl rfl rfl (fun K hK => ?_); conv => arg 2; whnf)
              | (refine q_fieldAddr rfl rfl rfl (by kernel_rfl) rfl (fun K hK => ?_); conv => arg 2; whnf)
              | (refine q_len rfl rfl rfl rfl rfl (fun K hK => ?_); conv => arg 2; whnf)
              | (refine q_load rfl rfl rfl rfl rfl (by assumption) lc (by first | exact c0 | exact c1) (fun K hK => ?_); conv => arg 2; whnf)
              | (refine q_load rfl rfl rfl rfl rfl (by assumption) hblk hck (fun K hK => ?_); conv => arg 2; whnf)
              | (refine q_int rfl rfl rfl rfl rfl rfl (fun K hK => ?_); conv => arg 2; whnf)
              | (refine q_bool rfl rfl rfl rfl rfl rfl (fun K hK => ?_); conv => arg 2; whnf)
              | (refine q_eff rfl rfl rfl (fun K hK => ?_); conv => arg 2; whnf)
              | (refine and_then (by assumption) (fun hk => ?_))
              | (refine q_done rfl ?_; dsimp only [NoPanic]))
          refine (next_is n _ t y _ (HC.out.new (by assumption)) _ (way_next HND.out hy.out)).mono ?_
          rintro e w5 ⟨rfl, hn5⟩
          have hkB := New.trans hnr hn5
          clear hn5
          go_wp2_with fail
          go_roundw
          case rel => exact ⟨0 + 1, by omega, by go_num, rfl, hkB⟩
          case measure => simp [intOf]; omega
        · have hj : k - 1 + 1 = k := by omega
          obtain ⟨b2, o2, z, he2, hck2, hz2⟩ := hx.out (k - 1) (by omega)
          cases he2
          have hblk2 := World.block_lt_of_cell? W _ hck2
          dsimp only at hblk2
          have HP : Hid (sideC t y (-1) = z) := way_prev HND.out (k := k - 1) (by rw [hj]; exact hy.out) hz2.out
          have hpos2 : 0 < k := by omega
          have hk3 : IntKind.i64.wrap ((k : Int) - 1) = (k : Int) - 1 := by rw [IntKind.wrap_i64]; omega
          have hk4 : (0 : Int) ≤ (k : Int) - 1 := by omega
          have hk5 : (k : Int) - 1 < (t.length : Int) := by omega
          have hk6 : ((k : Int) - 1).toNat = k - 1 := by omega
          have hne2 : (z != z) = false := by simp
          clear hz hj
          go_wp2_with fail
          refine wp_plan (.take 0 (.take 1 (.take 2 (.take 3 (.take 4 (.take 5 (.take 6 (.take 7 (.take 8 (.take 9 (.take 10 (.take 11 (.take 12 (.take 14 (.take 15 (.take 16 (.take 17 (.take 18 (.take 19 (.eff 13 (.take 20 (.take 21 (.take 22 (.done)))))))))))))))))))))))) (New W) (by kernel_rfl) (by kernel_rfl) hnr ?_
          go_wp2_with (first
              | (go_at_call 23; refine (prev_is n _ t y _ (HC.out.new (by assumption)) z HP.out).mono ?_; rintro e w5 ⟨rfl, hn5⟩; have hkA := New.trans (by assumption) hn5; clear hn5; obtain ⟨q1, q2⟩ := New.cells hkA)
              | (refine q_silent rfl rfl rfl rfl (fun K hK => ?_); conv => arg 2; whnf)
              | (refine q_fieldAddr rfl rfl rfl (by kernel_rfl) rfl (fun K hK => ?_); conv => arg 2; whnf)
              | (refine q_len rfl rfl rfl rfl rfl (fun K hK => ?_); conv => arg 2; whnf)
              | (refine q_load rfl rfl rfl rfl rfl (by assumption) lc (by first | exact c0 | exact c1) (fun K hK => ?_); conv => arg 2; whnf)
              | (refine q_load rfl rfl rfl rfl rfl (by assumption) hblk hck (fun K hK => ?_); conv => arg 2; whnf)
              | (refine q_load rfl rfl rfl rfl rfl (by assumption) hblk2 hck2 (fun K hK => ?_); conv => arg 2; whnf)
              | (refine q_int rfl rfl rfl rfl rfl rfl (fun K hK => ?_); conv => arg 2; whnf)
              | (refine q_bool rfl rfl rfl rfl rfl rfl (fun K hK => ?_); conv => arg 2; whnf)
              | (refine q_eff rfl rfl rfl (fun K hK => ?_); conv => arg 2; whnf)
              | (refine and_then (by assumption) (fun hk => ?_))
              | (refine q_done rfl ?_; dsimp only [NoPanic]))
          refine (next_is n _ t y _ (HC.out.new hkA) _ (way_next HND.out hy.out)).mono ?_
          rintro e w6 ⟨rfl, hn6⟩
          have hkB := New.trans hkA hn6
          clear hn6
          go_wp2_with fail
          go_roundw
          case rel => exact ⟨k + 1, by omega, by go_num, rfl, hkB⟩
          case measure => simp [intOf]; omega
      · have hke : k = t.length := by omega
        subst hke
        have hg0 : getI t (t.length : Int) = 0 := getI_big (by omega)
        rw [hg0]
        clear hg0
        obtain ⟨b2, o2, z, he2, hck2, hz2⟩ := hx.out (t.length - 1) (by omega)
        cases he2
        have hblk2 := World.block_lt_of_cell? W _ hck2
        dsimp only at hblk2
        have HT : Hid (getI t ((t.length : Int) - 1) = z) := by
          have e : (t.length : Int) - 1 = ((t.length - 1 : Nat) : Int) := by omega
          show getI t _ = z
          rw [e]; exact getI_at hz2.out
        have hk3 : IntKind.i64.wrap ((t.length : Int) - 1) = (t.length : Int) - 1 := by rw [IntKind.wrap_i64]; omega
        have hk4 : (0 : Int) ≤ (t.length : Int) - 1 := by omega
        have hk5 : (t.length : Int) - 1 < (t.length : Int) := by omega
        have hk6 : ((t.length : Int) - 1).toNat = t.length - 1 := by omega
        have hne2 : (z == z) = true := by simp
        have hnr : New W wr.drew := hNr.out.drew
        have HD0 : Hid (getI t 0 = y0) := getI_at hy0.out
        clear hk
        go_wp2_with fail
        refine wp_plan (.take 0 (.take 1 (.take 2 (.take 3 (.take 5 (.take 6 (.take 7 (.take 8 (.take 9 (.take 10 (.take 11 (.take 12 (.eff 4 (.take 13 (.take 14 (.take 15 (.take 16 (.take 17 (.eff 18 (.eff 19 (.take 20 (.take 21 (.take 22 (.done)))))))))))))))))))))))) (New W) (by kernel_rfl) (by kernel_rfl) hnr ?_
        go_wp2_with (first
            | (go_at_call 14; refine (tail_is n _ t _ (HC.out.new (by assumption)) z HT.out).mono ?_; rintro e w5 ⟨rfl, hn5⟩; have hkA := New.trans (by assumption) hn5; clear hn5; obtain ⟨q1, q2⟩ := New.cells hkA)
            | (go_at_call 12; refine (head_is n _ t _ (HC.out.new (by assumption)) y0 HD0.out).mono ?_; rintro e w5 ⟨rfl, hn5⟩; have hkA := New.trans (by assumption) hn5; clear hn5; obtain ⟨q1, q2⟩ := New.cells hkA)
            | (go_at_call 23; refine (prev_is n _ t y0 _ (HC.out.new (by assumption)) 0 (way_first HND.out hy0.out)).mono ?_; rintro e w5 ⟨rfl, hn5⟩; have hkA := New.trans (by assumption) hn5; clear hn5; obtain ⟨q1, q2⟩ := New.cells hkA)
            | (refine q_silent rfl rfl rfl rfl (fun K hK => ?_); conv => arg 2; whnf)
            | (refine q_fieldAddr rfl rfl rfl (by kernel_rfl) rfl (fun K hK => ?_); conv => arg 2; whnf)
            | (refine q_len rfl rfl rfl rfl rfl (fun K hK => ?_); conv => arg 2; whnf)
            | (refine q_load rfl rfl rfl rfl rfl (by assumption) lc (by first | exact c0 | exact c1) (fun K hK => ?_); conv => arg 2; whnf)
            | (refine q_load rfl rfl rfl rfl rfl (by assumption) hblk2 hck2 (fun K hK => ?_); conv => arg 2; whnf)
            | (refine q_int rfl rfl rfl rfl rfl rfl (fun K hK => ?_); conv => arg 2; whnf)
            | (refine q_bool rfl rfl rfl rfl rfl rfl (fun K hK => ?_); conv => arg 2; whnf)
            | (refine q_eff rfl rfl rfl (fun K hK => ?_); conv => arg 2; whnf)
            | (refine and_then (by assumption) (fun hk => ?_))
            | (refine q_done rfl ?_; dsimp only [NoPanic]))
        go_ret
        exact ⟨rfl, HB.out.step hkA gA⟩
end Go.Proofs.Ytbomebnonkcieaa
