import Derived.Test.YtbomebnonkcieaaC2
import Derived.Deep.RegionHeld3
namespace Go.Proofs.Ytbomebnonkcieaa
open Go.RowKit Go.Mem

set_option maxHeartbeats 400000 in
theorem place_any (n : Int) (v : Value) (l : List Int) (x : Int) (w : World) (h : SlI w v l) :
    Calls Try.prog 11 #[.agg #[.int .i64 n, v], .int .i64 x] w fun e w' => e = .returned (.int .i64 (idx x l 0)) ∧ New w w' := by
  obtain ⟨ao, cap, rfl, hc, hm, hao, hx⟩ := h.open
  clear h
  go_enter Try.func11, Try.ntmps11
  go_wp2_with fail
  go_loop [5] (fun i => ∃ k : Nat, k ≤ l.length ∧ i = .int .i64 k ∧ Hid (idx x l 0 = idx x (l.drop k) k)) (fun i => l.length - (intOf i).toNat)
  case atStart => exact ⟨0, Nat.zero_le _, rfl, rfl⟩
  case round =>
    obtain ⟨k, hk, rfl, hi⟩ := hrel
    by_cases hlt : k < l.length
    · obtain ⟨b, o, y, rfl, hck, hy⟩ := hx.out k hlt
      have hblk := World.block_lt_of_cell? w _ hck
      by_cases he : x = y
      · subst he
        go_wp2
        go_ret
        exact ⟨by rw [hi.out, idx_drop_hit hy.out]; rfl, (Below.refl _ _).alloc (Nat.le_refl _) _⟩
      · have hb : (y == x) = false := by simpa using fun h => he h.symm
        go_wp2
        go_round
        case rel => exact ⟨k + 1, by omega, by go_num, hi.out.trans (idx_drop_miss hy.out he)⟩
        case measure => simp [intOf]; omega
    · go_wp2
      go_ret
      exact ⟨by rw [hi.out, idx_drop_end (by omega)]; rfl, (Below.refl _ _).alloc (Nat.le_refl _) _⟩

theorem _root_.Go.RowKit.Below.drewN {B : Nat} {a w : World} (h : Below B a w) (n : Nat) : Below B a (w.drewN n) := ⟨h.os, h.tape, h.output, h.size, h.block⟩
theorem idx_append_hit {x : Int} : ∀ (l m : List Int) (i : Int), x ∈ l → idx x (l ++ m) i = idx x l i := by
  intro l m
  induction l with
  | nil => intro i h; cases h
  | cons y l ih =>
    intro i h
    simp only [List.cons_append, idx]
    split
    · rfl
    · rename_i hne; exact ih (i+1) (by simpa [hne] using h)
theorem idx_append_miss {x : Int} : ∀ (l m : List Int) (i : Int), ¬ x ∈ l → idx x (l ++ m) i = idx x m (i + l.length) := by
  intro l m
  induction l with
  | nil => intro i h; simp
  | cons y l ih =>
    intro i h
    simp only [List.mem_cons, not_or] at h
    simp only [List.cons_append, idx]
    rw [if_neg h.1, ih (i+1) h.2]
    simp; congr 1; omega
theorem take_idx {l : List Int} {k : Nat} {y : Int} (hy : l[k]? = some y) : (hasI (l.take k) y = false ↔ idx y l 0 = k) := by
  have e : l = l.take k ++ (y :: l.drop (k+1)) := by
    obtain ⟨hk, h⟩ := List.getElem?_eq_some_iff.1 hy
    rw [← h, ← List.drop_eq_getElem_cons hk]; simp
  have hlen : (l.take k).length = k := by
    obtain ⟨hk, h⟩ := List.getElem?_eq_some_iff.1 hy
    simp; omega
  by_cases hm : y ∈ l.take k
  · have h1 : idx y l 0 < k := by
      rw [e, idx_append_hit _ _ _ hm]
      have := (idx_lt (x := y) (l.take k) 0 (by omega)).2
      omega
    simp [hasI, hm]; omega
  · have h1 : idx y l 0 = k := by
      rw [e, idx_append_miss _ _ _ hm]
      simp only [idx, if_true]; omega
    simp [hasI, hm, h1]

set_option maxHeartbeats 800000 in
theorem mayConf_any (n : Int) (v : Value) (l : List Int) (w : World) (h : SlI w v l) :
    Calls Try.prog 9 #[.agg #[.int .i64 n, v]] w fun e w' => e = .returned (.bool (mayC n l)) ∧ New w w' := by
  obtain ⟨ao, cap, rfl, hc, hm, hao, hx⟩ := h.open
  have HS := Lib.hid (h.alloc (.cells #[.int .i64 n, .slice ao l.length cap] 25))
  clear h
  by_cases c : 1 ≤ n ∧ n ≤ 1099511627776 ∧ 1 ≤ l.length ∧ l.length ≤ 5
  · obtain ⟨c1, c2, c3, c4⟩ := c
    go_enter Try.func9, Try.ntmps9
    go_wp2_with fail
    obtain ⟨W, hW⟩ : ∃ W, W = w.alloc (.cells #[.int .i64 n, .slice ao l.length cap] 25) := ⟨_, rfl⟩
    have hW0 : W.cell? ⟨w.heap.size, 0, none⟩ = some (.int .i64 n) := by subst hW; simp
    have hW1 : W.cell? ⟨w.heap.size, 1, none⟩ = some (.slice ao l.length cap) := by subst hW; simp
    have hWx : Hid (∀ k, k < l.length → ∃ b o y, ao = some ⟨b, o, none⟩ ∧ W.cell? ⟨b, o + k, none⟩ = some (.int .i64 y) ∧ Hid (l[k]? = some y)) := by
      intro k hk
      obtain ⟨b, o, y, rfl, hck, hy⟩ := hx.out k hk
      exact ⟨b, o, y, rfl, by subst hW; rw [World.cell?_alloc_past _ _ _ (World.block_lt_of_cell? w _ hck)]; exact hck, hy⟩
    have hN : Hid (New w W) := by subst hW; exact (Below.refl _ _).alloc (Nat.le_refl _) _
    rw [← hW] at HS ⊢
    clear hW hx
    go_loopw [3] (fun i w' => ∃ k : Nat, k ≤ l.length ∧ i = .int .i64 k ∧ GoodTo l k ∧ Hid (New W w')) (fun i _ => l.length - (intOf i).toNat)
    case atStart => exact ⟨0, Nat.zero_le _, rfl, by simp [GoodTo], New.refl _⟩
    case round =>
      rename_i wr
      obtain ⟨k, hk, rfl, hi, hNr⟩ := hrel
      obtain ⟨r1, r2⟩ := hNr.out.cells
      have hbW := World.block_lt_of_cell? W _ hW0
      by_cases hlt : k < l.length
      · obtain ⟨b, o, y, rfl, hck, hy⟩ := hWx.out k hlt
        have hblk := World.block_lt_of_cell? W _ hck
        have hk0 : (0 : Int) ≤ (k : Int) := by omega
        have hk1 : (k : Int) < (l.length : Int) := by omega
        by_cases r : 1 ≤ y ∧ y ≤ 5
        · obtain ⟨p, hp⟩ : ∃ p, p = idx y l 0 := ⟨_, rfl⟩
          have HP := Lib.hid hp
          have hcall := fun w h => place_any n (.slice (some ⟨b, o, none⟩) l.length cap) l y w h
          rw [← hp] at hcall
          have HC := Lib.hid hcall
          clear hcall hp
          have hd1 : decide (y < 1) = false := by simp; omega
          have hd2 : decide (5 < y) = false := by simp; omega
          clear r
          go_wp2_with fail
          go_region_held3 (fun w' => (∀ b o, b < W.heap.size → w'.cell? ⟨b, o, none⟩ = W.cell? ⟨b, o, none⟩) ∧ Hid (New W w'))
            (first | exact ⟨fun b o hb => by first | exact r1 b o hb | (simp; exact r1 b o hb), Below.drew hNr⟩ | (go_split_ands; refine ⟨(New.cells (New.trans (by assumption) hb1)).1, (New.trans (by assumption) hb1)⟩))
            (first | (go_at_call 11; go_split_ands; refine (HC.out _ (HS.out.new (by assumption))).mono ?_; rintro e w2 ⟨rfl, hb1⟩))
          rename_i hS
          obtain ⟨-, hNew⟩ := hS
          have hb1 := of_decide_eq_false hd1
          have hb2 := of_decide_eq_false hd2
          by_cases hpk : p = k
          · have hT : (p != (k : Int)) = false := by simp [hpk]
            have HPK := Lib.hid hpk
            clear hpk
            go_wp2_with fail
            go_roundw
            case rel => exact ⟨k + 1, by omega, by go_num, hi.step hy.out (by omega) ((take_idx hy.out).2 (HP.out.symm.trans HPK.out)), hNew⟩
            case measure => simp [intOf]; omega
          · have hT : (p != (k : Int)) = true := by simp [hpk]
            have hmem : y ∈ l.take k := by
              have := (not_congr (take_idx hy.out)).2 (fun h => hpk (HP.out.trans h))
              simpa [hasI] using this
            clear hpk
            go_wp2_with fail
            go_ret
            exact ⟨ret_bool (mayC_false (fun hh => nodup_bad hy.out hmem hh.2.2.2.2.2)), New.trans hN.out hNew⟩
        · have hf : false = mayC n l := mayC_false (fun hh => r (hh.2.2.2.2.1 y (mem_of_get hy.out)))
          have HF := Lib.hid hf
          clear hf
          rcases (by omega : y < 1 ∨ (1 ≤ y ∧ 5 < y)) with r1' | ⟨r1', r2'⟩
          · have hd1 : decide (y < 1) = true := by simp; omega
            clear r
            go_wp2_with fail
            go_quiet (fail)
            go_wp2_with fail
            go_ret
            exact ⟨ret_bool HF.out, New.trans hN.out (Below.drewN hNr.out _)⟩
          · have hd1 : decide (y < 1) = false := by simp; omega
            have hd2 : decide (5 < y) = true := by simp; omega
            clear r
            go_wp2_with fail
            go_quiet (fail)
            go_wp2_with fail
            go_ret
            exact ⟨ret_bool HF.out, New.trans hN.out (Below.drewN hNr.out _)⟩
      · go_wp2_with fail
        go_ret
        refine ⟨ret_bool (mayC_true ⟨c1, c2, c3, c4, ?_⟩), New.trans hN.out hNr.out⟩
        unfold GoodTo at hi
        rw [List.take_of_length_le (by omega)] at hi
        exact hi
  · have HF := Lib.hid (mayC_false (n := n) (l := l) (fun hh => c ⟨hh.1, hh.2.1, hh.2.2.1, hh.2.2.2.1⟩))
    rcases (by omega : n < 1 ∨ (1 ≤ n ∧ 1099511627776 < n) ∨ (1 ≤ n ∧ n ≤ 1099511627776 ∧ l.length < 1) ∨ (1 ≤ n ∧ n ≤ 1099511627776 ∧ 1 ≤ l.length ∧ 5 < l.length)) with r | ⟨r, r1⟩ | ⟨r, r1, r2⟩ | ⟨r, r1, r2, r3⟩
    all_goals
      clear c
      go_enter Try.func9, Try.ntmps9
      go_wp2_with fail
      go_ret
      exact ⟨ret_bool HF.out, (Below.refl _ _).alloc (Nat.le_refl _) _⟩
end Go.Proofs.Ytbomebnonkcieaa
