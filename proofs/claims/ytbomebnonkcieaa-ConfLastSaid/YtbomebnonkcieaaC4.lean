import Derived.Test.YtbomebnonkcieaaC3
namespace Go.Proofs.Ytbomebnonkcieaa
open Go.RowKit Go.Mem

theorem idx_get {x : Int} : ∀ (l : List Int) (i : Int), 0 ≤ i → i ≤ idx x l i → l[(idx x l i - i).toNat]? = some x := by
  intro l
  induction l with
  | nil => intro i _ h; simp only [idx] at h; omega
  | cons y l ih =>
    intro i h0 h
    simp only [idx] at h ⊢
    split
    · rename_i e; simp [e]
    · rename_i e
      rw [if_neg e] at h
      have h1 : i + 1 ≤ idx x l (i+1) := by
        rcases Nat.lt_or_ge 0 l.length with hl | hl
        · by_cases hm : x ∈ l
          · have := (idx_mem (x := x) l (i+1) (by omega)).2 hm
            -- the place is at least where it begins
            exact idx_ge l (i+1) (by omega) hm
          · have := (not_congr (idx_mem (x := x) l (i+1) (by omega))).2 hm
            have := idx_lt (x := x) l (i+1) (by omega)
            omega
        · have : l = [] := List.eq_nil_of_length_eq_zero (by omega)
          subst this; simp only [idx] at h; omega
      have := ih (i+1) (by omega) h1
      have e2 : (idx x l (i+1) - i).toNat = (idx x l (i+1) - (i+1)).toNat + 1 := by omega
      rw [e2, List.getElem?_cons_succ]; exact this
where
  idx_ge {x : Int} : ∀ (l : List Int) (i : Int), 0 ≤ i → x ∈ l → i ≤ idx x l i := by
    intro l
    induction l with
    | nil => intro i _ h; cases h
    | cons y l ih =>
      intro i h0 h
      simp only [idx]
      split
      · omega
      · rename_i e
        have := ih (i+1) (by omega) (by simpa [e] using h)
        omega

set_option maxHeartbeats 400000 in
theorem refSide_any (n : Int) (v : Value) (l : List Int) (x d : Int) (w : World) (h : SlI w v l) (hd : -10 ≤ d ∧ d ≤ 10) :
    Calls Try.prog 32 #[.agg #[.int .i64 n, v], .int .i64 x, .int .i64 d] w fun e w' => e = .returned (.int .i64 (sideC l x d)) ∧ New w w' := by
  obtain ⟨ao, cap, rfl, hc, hm, hao, hx⟩ := h.open
  have HS := Lib.hid (h.alloc (.cells #[.int .i64 n, .slice ao l.length cap] 25))
  clear h
  have hi := idx_lt (x := x) l 0 (by omega)
  obtain ⟨j, hj⟩ : ∃ j, j = idx x l 0 := ⟨_, rfl⟩
  have hcall := fun w h => place_any n (.slice ao l.length cap) l x w h
  rw [← hj] at hi hcall
  have hres : sideC l x d = if j < 0 then 0 else getI l (j + d) := by unfold sideC; rw [← hj]
  rw [hres]
  have HC := Lib.hid hcall
  clear hcall hres hj
  by_cases c : j < 0
  · rw [if_pos c]
    go_enter Try.func32, Try.ntmps32
    go_wp2_with (first | (go_at_call 11; refine (HC.out _ HS.out).mono ?_; rintro e w' ⟨rfl, hb⟩))
    go_ret
    exact ⟨rfl, New.trans ((Below.refl _ _).alloc (Nat.le_refl _) _) hb⟩
  · rw [if_neg c]
    by_cases c1 : j + d < 0
    · go_enter Try.func32, Try.ntmps32
      go_wp2_with (first | (go_at_call 11; refine (HC.out _ HS.out).mono ?_; rintro e w' ⟨rfl, hb⟩))
      go_ret
      exact ⟨ret_int (getI_neg c1).symm, New.trans ((Below.refl _ _).alloc (Nat.le_refl _) _) hb⟩
    · obtain ⟨k, hk⟩ := Int.eq_ofNat_of_zero_le (by omega : 0 ≤ j + d)
      obtain rfl : j = k - d := by omega
      have ek : (k : Int) - d + d = k := by omega
      rw [ek]
      have EK := Lib.hid ek
      clear ek hk
      by_cases c2 : k < l.length
      · obtain ⟨b, o, y, rfl, hck, hy⟩ := hx.out k c2
        have hblk : b < w.heap.size := World.block_lt_of_cell? w _ hck
        go_enter Try.func32, Try.ntmps32
        go_wp2_with (first | (go_at_call 11; refine (HC.out _ HS.out).mono ?_; rintro e w' ⟨rfl, hb⟩; obtain ⟨r1, r2⟩ := New.cells hb; have hz : w.heap.size < w'.heap.size := by (have := hb.size; simp at this; omega)))
        go_ret
        exact ⟨ret_int (getI_at hy.out).symm, New.trans ((Below.refl _ _).alloc (Nat.le_refl _) _) hb⟩
      · go_enter Try.func32, Try.ntmps32
        go_wp2_with (first | (go_at_call 11; refine (HC.out _ HS.out).mono ?_; rintro e w' ⟨rfl, hb⟩; obtain ⟨r1, r2⟩ := New.cells hb; have hz : w.heap.size < w'.heap.size := by (have := hb.size; simp at this; omega)))
        go_ret
        exact ⟨ret_int (getI_big (by omega)).symm, New.trans ((Below.refl _ _).alloc (Nat.le_refl _) _) hb⟩

theorem nextOf_any (n : Int) (v : Value) (l : List Int) (x : Int) (w : World) (h : SlI w v l) :
    Calls Try.prog 22 #[.agg #[.int .i64 n, v], .int .i64 x] w fun e w' => e = .returned (.int .i64 (sideC l x 1)) ∧ New w w' := by
  obtain ⟨ao, cap, rfl, hc, hm, hao, hx⟩ := h.open
  have HS := Lib.hid (h.alloc (.cells #[.int .i64 n, .slice ao l.length cap] 25))
  clear h
  go_enter Try.func22, Try.ntmps22
  go_wp2_with (go_at_call 32; refine (refSide_any _ _ l _ _ _ HS.out (by omega)).mono ?_; rintro e w' ⟨rfl, hb⟩)
  go_ret
  exact ⟨rfl, New.trans ((Below.refl _ _).alloc (Nat.le_refl _) _) hb⟩
theorem prevOf_any (n : Int) (v : Value) (l : List Int) (x : Int) (w : World) (h : SlI w v l) :
    Calls Try.prog 24 #[.agg #[.int .i64 n, v], .int .i64 x] w fun e w' => e = .returned (.int .i64 (sideC l x (-1))) ∧ New w w' := by
  obtain ⟨ao, cap, rfl, hc, hm, hao, hx⟩ := h.open
  have HS := Lib.hid (h.alloc (.cells #[.int .i64 n, .slice ao l.length cap] 25))
  clear h
  go_enter Try.func24, Try.ntmps24
  go_wp2_with (go_at_call 32; refine (refSide_any _ _ l _ _ _ HS.out (by omega)).mono ?_; rintro e w' ⟨rfl, hb⟩)
  go_ret
  exact ⟨rfl, New.trans ((Below.refl _ _).alloc (Nat.le_refl _) _) hb⟩

theorem refHead_any (n : Int) (v : Value) (l : List Int) (w : World) (h : SlI w v l) :
    Calls Try.prog 13 #[.agg #[.int .i64 n, v]] w fun e w' => e = .returned (.int .i64 (getI l 0)) ∧ New w w' := by
  obtain ⟨ao, cap, rfl, hc, hm, hao, hx⟩ := h.open
  clear h
  by_cases c : l.length = 0
  · have hb : (((l.length : Nat) : Int) == 0) = true := beq_iff_eq.2 (by omega)
    go_enter Try.func13, Try.ntmps13
    go_wp2
    go_ret
    exact ⟨ret_int (getI_big (by omega)).symm, (Below.refl _ _).alloc (Nat.le_refl _) _⟩
  · obtain ⟨b, o, y, rfl, hck, hy⟩ := hx.out 0 (by omega)
    have hblk : b < w.heap.size := World.block_lt_of_cell? w _ hck
    simp only [Nat.add_zero] at hck
    have hb : (((l.length : Nat) : Int) == 0) = false := beq_eq_false_iff_ne.2 (by omega)
    have hp : 0 < l.length := by omega
    go_enter Try.func13, Try.ntmps13
    go_wp2
    go_ret
    exact ⟨ret_int (getI_at (k := 0) hy.out).symm, (Below.refl _ _).alloc (Nat.le_refl _) _⟩

theorem refTail_any (n : Int) (v : Value) (l : List Int) (w : World) (h : SlI w v l) :
    Calls Try.prog 15 #[.agg #[.int .i64 n, v]] w fun e w' => e = .returned (.int .i64 (getI l (l.length - 1))) ∧ New w w' := by
  obtain ⟨ao, cap, rfl, hc, hm, hao, hx⟩ := h.open
  clear h
  by_cases c : l.length = 0
  · have hb : (((l.length : Nat) : Int) == 0) = true := beq_iff_eq.2 (by omega)
    go_enter Try.func15, Try.ntmps15
    go_wp2
    go_ret
    exact ⟨ret_int (getI_neg (by omega)).symm, (Below.refl _ _).alloc (Nat.le_refl _) _⟩
  · obtain ⟨b, o, y, rfl, hck, hy⟩ := hx.out (l.length - 1) (by omega)
    have hblk : b < w.heap.size := World.block_lt_of_cell? w _ hck
    have hb : (((l.length : Nat) : Int) == 0) = false := beq_eq_false_iff_ne.2 (by omega)
    have hp : 0 < l.length := by omega
    go_enter Try.func15, Try.ntmps15
    go_wp2
    go_ret
    refine ⟨ret_int ?_, (Below.refl _ _).alloc (Nat.le_refl _) _⟩
    rw [← getI_at hy.out]; congr 1; omega
end Go.Proofs.Ytbomebnonkcieaa
