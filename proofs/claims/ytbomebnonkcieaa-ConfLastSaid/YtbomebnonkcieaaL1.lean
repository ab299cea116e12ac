import Derived.Test.YtbomebnonkcieaaC13
namespace Go.Proofs.Ytbomebnonkcieaa
open Go.RowKit Go.Mem Go.Draw

/-- the first so many -/
theorem first_of {w : World} {ao : Option Addr} {cap : Nat} {l : List Int} (c : Nat) (ci : Int) (hci : (c : Int) = ci) (h : SlI w (.slice ao l.length cap) l) :
    ∃ t : List Int, (if ci < (l.length : Int) then ci else (l.length : Int)) = (t.length : Int) ∧ t.length ≤ c ∧ t.length ≤ l.length ∧ Hid (SlI w (.slice ao t.length cap) t) := by
  subst hci
  by_cases hc : l.length ≤ c
  · exact ⟨l, by rw [if_neg (by omega)], hc, Nat.le_refl _, h⟩
  · have hl : (l.take c).length = c := by simp; omega
    refine ⟨l.take c, by rw [if_pos (by omega), hl], by omega, by omega, ?_⟩
    rw [hl]
    exact h.take (by omega)

/-! ### the plain law of ConfBack -/
theorem idx_new {t : List Int} {x : Int} (h : (t ++ [x]).Nodup) : idx x (t ++ [x]) 0 = t.length := by
  have hx : ¬ x ∈ t := fun hm => (List.nodup_append.1 h).2.2 x hm x (by simp) rfl
  rw [idx_append_miss _ _ _ hx]
  simp [idx]
theorem back_nodup {n : Int} {t : List Int} {x : Int} (h : tOk n t (t ++ [x]) = true) : (t ++ [x]).Nodup := by
  unfold tOk at h
  rw [Bool.and_eq_true] at h
  exact (of_decide_eq_true h.2).2.2.2.2.2
theorem back_rm {n : Int} {t : List Int} {x : Int} (h : tOk n t (t ++ [x]) = true) : rmI (t ++ [x]) x = t := by
  unfold rmI
  rw [idx_new (back_nodup h)]
  simp [List.eraseIdx_append_of_length_le]
theorem back_ok {n : Int} {t : List Int} {x : Int} (h : tOk n t (t ++ [x]) = true) (hn : n ≤ 549755813888) : rmOk (n + 1) (t ++ [x]) x = true := by
  unfold rmOk
  rw [back_rm h, idx_new (back_nodup h)]
  unfold tOk at h ⊢
  rw [Bool.and_eq_true] at h
  rw [h.2]
  have h1 := of_decide_eq_true h.1
  have : mayC (n + 1 + 1) t = true := by
    unfold mayC
    exact decide_eq_true ⟨by omega, by omega, h1.2.2⟩
  rw [this]
  simp
theorem back_tail {t : List Int} {x : Int} : getI (t ++ [x]) ((t ++ [x]).length - 1) = x := by
  have : (((t ++ [x]).length : Int) - 1) = (t.length : Int) := by simp
  rw [this]
  exact getI_at (by simp)

theorem with_eq (n : Int) (v : Value) (l : List Int) (x : Int) (w : World) (h : SlI w v l) (hl : l.length ≤ 1000000) (l' : List Int) (hl' : l ++ [x] = l') (b : Bool) (ok : tOk n l l' = b) :
    Calls Try.prog 16 #[.agg #[.int .i64 n, v], .int .i64 x] w fun e w' => ∃ ao cap, e = .returned (.tuple #[.agg #[.int .i64 (if b then n + 1 else 0), .slice ao (if b then l' else []).length cap], .bool b]) ∧
      Hid (SlI w' (.slice ao (if b then l' else []).length cap) (if b then l' else [])) ∧ New w w' := by
  subst hl'
  refine (with_any n v l x w h hl).mono ?_
  rintro e w' ⟨m, u, rfl, rfl, hs, hn⟩
  rw [ok] at hs ⊢
  obtain ⟨ao, cap, rfl⟩ := hs.agg
  exact ⟨ao, cap, rfl, hs, hn⟩
theorem without_eq (n : Int) (v : Value) (l : List Int) (x : Int) (w : World) (h : SlI w v l) (hl : l.length ≤ 1000000) (l' : List Int) (hl' : rmI l x = l') (b : Bool) (ok : rmOk n l x = b) :
    Calls Try.prog 18 #[.agg #[.int .i64 n, v], .int .i64 x] w fun e w' => ∃ ao cap, e = .returned (.tuple #[.agg #[.int .i64 (if b then n + 1 else 0), .slice ao (if b then l' else []).length cap], .bool b]) ∧
      Hid (SlI w' (.slice ao (if b then l' else []).length cap) (if b then l' else [])) ∧ New w w' := by
  subst hl'
  refine (without_any n v l x w h hl).mono ?_
  rintro e w' ⟨m, u, rfl, rfl, hs, hn⟩
  rw [ok] at hs ⊢
  obtain ⟨ao, cap, rfl⟩ := hs.agg
  exact ⟨ao, cap, rfl, hs, hn⟩
theorem eqConf_is (n : Int) (v : Value) (l : List Int) (n' : Int) (v' : Value) (l' : List Int) (w : World) (h : SlI w v l) (h' : SlI w v' l') (b : Bool) (hb : eqC n l n' l' = b) :
    Calls Try.prog 20 #[.agg #[.int .i64 n, v], .agg #[.int .i64 n', v']] w fun e w' => e = .returned (.bool b) ∧ New w w' := by
  subst hb; exact eqConf_any n v l n' v' l' w h h'

set_option maxHeartbeats 800000 in
theorem confBack_yes (n : Int) (hn : -9223372036854775808 ≤ n ∧ n ≤ 9223372036854775807) (v : Value) (l : List Int) (x : Int) (w : World) (h : SlI w v l) :
    Calls Try.prog 5 #[.int .i64 n, v, .int .i64 x] w fun e w' => e = .returned (.bool true) ∧ New w w' := by
  obtain ⟨i0, hi0, hz0, hz1, hz2⟩ := info_parts Try.info3
  have hc : ∃ ao cap, v = .slice ao l.length cap ∧ l.length ≤ cap := by obtain ⟨ao, cap, rfl, h1, _⟩ := h; exact ⟨ao, cap, by simp, h1⟩
  obtain ⟨ao, cap, rfl, hcap⟩ := hc
  obtain ⟨t, hmin, ht5, htl, H⟩ := first_of 5 5 rfl h
  have htl' : (t.length : Int) ≤ (l.length : Int) := by omega
  have htc : t.length ≤ cap := by omega
  clear h
  go_enter Try.func5, Try.ntmps5
  go_wp2_with fail
  refine (begun_yes _).mono ?_
  rintro e w1 ⟨rfl, hn1⟩
  have HN := Lib.hid hn1
  have g1 := hn1.size
  clear hn1
  by_cases big : 549755813888 < n
  · have hb : decide (549755813888 < n) = true := by simpa using big
    go_wp2_with (first
      | (at_builtin
         refine wpList_append_sl rfl (.const (.slice none 0 0)) (.tmp 20) 22 rfl w1.heap.size 3 i0 (.int .i64 0) 1 8 Try.underlying22 hi0 hz0 hz1 hz2 rfl (by decide) (.slice none 0 0) 0 [] rfl (World.ownsRow_nil _ _ _ _)
           (.slice ao t.length cap) t.length (t.map (Value.int .i64)) rfl (H.out.new HN.out) (by simp) (ints_oneCell _ _) (by unfold maxLen; omega) (by omega) (Nat.le_refl _) ?_
         intro v2 w2 hO2 hG2 _
         rw [Nat.zero_add, List.nil_append] at hO2
         obtain ⟨ao2, cap2, rfl⟩ := owns_shape hO2
         have HO2 := Lib.hid hO2
         have HG2 := Lib.hid (New.of_grown hG2)
         clear hO2 hG2))
    go_ret
    exact ⟨rfl, (HN.out.step HG2.out g1).alloc (by have := HG2.out.size; omega) _⟩
  · have hb : decide (549755813888 < n) = false := by simpa using big
    have hw2 : IntKind.i64.wrap (n + 2) = n + 2 := by rw [IntKind.wrap_i64]; omega
    have hn2 : n + 1 + 1 = n + 2 := by omega
    go_wp2_with (first
      | (at_builtin
         refine wpList_append_sl rfl (.const (.slice none 0 0)) (.tmp 20) 22 rfl w1.heap.size 3 i0 (.int .i64 0) 1 8 Try.underlying22 hi0 hz0 hz1 hz2 rfl (by decide) (.slice none 0 0) 0 [] rfl (World.ownsRow_nil _ _ _ _)
           (.slice ao t.length cap) t.length (t.map (Value.int .i64)) rfl (H.out.new HN.out) (by simp) (ints_oneCell _ _) (by unfold maxLen; omega) (by omega) (Nat.le_refl _) ?_
         intro v2 w2 hO2 hG2 _
         rw [Nat.zero_add, List.nil_append] at hO2
         obtain ⟨ao2, cap2, rfl⟩ := owns_shape hO2
         have HO2 := Lib.hid hO2
         have HG2 := Lib.hid (New.of_grown hG2)
         clear hO2 hG2))
    have HC : Hid (SlI (w2.alloc (.cells #[.int .i64 n, .slice ao2 t.length cap2] 25)) (.slice ao2 t.length cap2) t) := (SlI.of_owns HO2.out rfl (by omega)).alloc _
    have HL : Hid (Held [(w2.heap.size, .cells #[.int .i64 n, .slice ao2 t.length cap2] 25)] (w2.alloc (.cells #[.int .i64 n, .slice ao2 t.length cap2] 25))) := (Held.nil _).alloc _
    have HB : Hid (New w (w2.alloc (.cells #[.int .i64 n, .slice ao2 t.length cap2] 25))) := (HN.out.step HG2.out g1).alloc (by have := HG2.out.size; omega) _
    have g2 : w.heap.size ≤ w2.heap.size := by have := HG2.out.size; omega
    cases ok : tOk n t (t ++ [x])
    · have OK := Lib.hid ok
      clear ok
      refine (with_eq n _ t x _ HC.out (by omega) (t ++ [x]) rfl false OK.out).mono ?_
      rintro e w3 ⟨ao3, cap3, rfl, HD, hn3⟩
      simp only [Bool.false_eq_true, if_false, List.length_nil] at HD ⊢
      have HB := Lib.hid (HB.out.step hn3 (by simp; omega))
      have g3 : w.heap.size ≤ w3.heap.size := by have := hn3.size; simp at this; omega
      clear hn3
      go_wp2_with fail
      refine (eqConf_is 0 _ [] 0 _ [] _ (HD.out.alloc _) (Sl.nil _) true (by decide)).mono ?_
      rintro e w4 ⟨rfl, hn4⟩
      have HB := Lib.hid ((HB.out.alloc g3 _).step hn4 (by simp; omega))
      clear hn4
      go_wp2_with fail
      go_ret
      exact ⟨rfl, HB.out⟩
    · have hrm := Lib.hid (back_rm ok)
      have hrk := Lib.hid (back_ok ok (by omega))
      have OK := Lib.hid ok
      clear ok
      refine (with_eq n _ t x _ HC.out (by omega) (t ++ [x]) rfl true OK.out).mono ?_
      rintro e w3 ⟨ao3, cap3, rfl, HD, hn3⟩
      simp only [if_true] at HD ⊢
      have HB := Lib.hid (HB.out.step hn3 (by simp; omega))
      have HL := Lib.hid (HL.out.new hn3)
      have HC := Lib.hid (HC.out.new hn3)
      have g3 : w.heap.size ≤ w3.heap.size := by have := hn3.size; simp at this; omega
      clear hn3
      go_wp2_with fail
      have hlx : (t ++ [x]).length = t.length + 1 := by simp
      have HD : Hid (SlI w3 (.slice ao3 (t.length + 1) cap3) (t ++ [x])) := by have := HD.out; rwa [hlx] at this
      refine (without_eq (n + 1) _ (t ++ [x]) x _ (HD.out.alloc _) (by omega) t hrm.out true hrk.out).mono ?_
      rintro e w4 ⟨ao4, cap4, rfl, HE, hn4⟩
      simp only [if_true] at HE ⊢
      have HB := Lib.hid ((HB.out.alloc g3 _).step hn4 (by simp; omega))
      have HL := Lib.hid ((HL.out.alloc _).new hn4)
      have HC := Lib.hid ((HC.out.alloc _).new hn4)
      have HD := Lib.hid ((HD.out.alloc _).new hn4)
      have g4 : w.heap.size ≤ w4.heap.size := by have := hn4.size; simp at this; omega
      clear hn4
      obtain ⟨c0, c1⟩ := Held.two HL (List.mem_cons_of_mem _ List.mem_cons_self)
      have lc := HL.out.lt (List.mem_cons_of_mem _ List.mem_cons_self)
      dsimp only at lc
      have heq : (n + 1 + 1 == n + 2) = true := by simp; omega
      go_wp2_with fail
      refine (eqConf_is n _ t n _ t _ (HE.out.alloc _) (HC.out.alloc _) true (by simp [eqC])).mono ?_
      rintro e w5 ⟨rfl, hn5⟩
      have HB := Lib.hid ((HB.out.alloc g4 _).step hn5 (by simp; omega))
      have HL := Lib.hid ((HL.out.alloc _).new hn5)
      have HD := Lib.hid ((HD.out.alloc _).new hn5)
      have g5 : w.heap.size ≤ w5.heap.size := by have := hn5.size; simp at this; omega
      clear hn5
      obtain ⟨d0, d1⟩ := Held.two HL (List.mem_cons_of_mem _ List.mem_cons_self)
      go_wp2_with fail
      refine (tail_is (n + 1) _ (t ++ [x]) _ HD.out x back_tail).mono ?_
      rintro e w6 ⟨rfl, hn6⟩
      have HB := Lib.hid (HB.out.step hn6 g5)
      clear hn6
      go_wp2_with fail
      go_ret
      exact ⟨rfl, HB.out⟩
end Go.Proofs.Ytbomebnonkcieaa
