import Derived.Test.YtbomebnonkcieaaC1
import Derived.Deep.RegionHeld3
namespace Go.Proofs.Ytbomebnonkcieaa
open Go.RowKit Go.Mem

theorem has_any (n : Int) (v : Value) (l : List Int) (x : Int) (w : World) (h : SlI w v l) :
    Calls Try.prog 10 #[.agg #[.int .i64 n, v], .int .i64 x] w fun e w' => e = .returned (.bool (hasI l x)) ∧ New w w' := by
  obtain ⟨ao, cap, rfl, hc, hm, hao, hx⟩ := h.open
  have HS := Lib.hid (h.alloc (.cells #[.int .i64 n, .slice ao l.length cap] 25))
  clear h
  go_enter Try.func10, Try.ntmps10
  go_wp2_with (go_at_call 25; refine (contains_any _ _ x _ HS.out).mono ?_; rintro e w' ⟨rfl, rfl⟩)
  go_ret
  exact ⟨rfl, (Below.refl _ _).alloc (Nat.le_refl _) _⟩

def getI (l : List Int) (i : Int) : Int := if i < 0 then 0 else l[i.toNat]?.getD 0
theorem getI_neg {l : List Int} {i : Int} (h : i < 0) : getI l i = 0 := by simp [getI, h]
theorem getI_big {l : List Int} {i : Int} (h : (l.length : Int) ≤ i) : getI l i = 0 := by
  unfold getI; split
  · rfl
  · rw [List.getElem?_eq_none (by omega)]; rfl
theorem getI_at {l : List Int} {k : Nat} {y : Int} (h : l[k]? = some y) : getI l k = y := by
  simp [getI, h]; omega
theorem ret_int {k : IntKind} {a b : Int} (h : a = b) : Ending.returned (.int k a) = .returned (.int k b) := by rw [h]

set_option maxHeartbeats 400000 in
theorem at_any (n : Int) (v : Value) (l : List Int) (i : Int) (w : World) (h : SlI w v l) :
    Calls Try.prog 26 #[.agg #[.int .i64 n, v], .int .i64 i] w fun e w' => e = .returned (.int .i64 (getI l i)) ∧ New w w' := by
  obtain ⟨ao, cap, rfl, hc, hm, hao, hx⟩ := h.open
  clear h
  by_cases c0 : i < 0
  · go_enter Try.func26, Try.ntmps26
    go_wp2
    go_ret
    exact ⟨ret_int (getI_neg c0).symm, (Below.refl _ _).alloc (Nat.le_refl _) _⟩
  · obtain ⟨k, rfl⟩ := Int.eq_ofNat_of_zero_le (by omega : 0 ≤ i)
    by_cases c1 : k < l.length
    · obtain ⟨b, o, y, rfl, hck, hy⟩ := hx.out k c1
      have hblk := World.block_lt_of_cell? w _ hck
      clear c0
      go_enter Try.func26, Try.ntmps26
      go_wp2
      go_ret
      exact ⟨ret_int (getI_at hy.out).symm, (Below.refl _ _).alloc (Nat.le_refl _) _⟩
    · go_enter Try.func26, Try.ntmps26
      go_wp2
      go_ret
      exact ⟨ret_int (getI_big (by omega)).symm, (Below.refl _ _).alloc (Nat.le_refl _) _⟩

theorem head_any (n : Int) (v : Value) (l : List Int) (w : World) (h : SlI w v l) :
    Calls Try.prog 12 #[.agg #[.int .i64 n, v]] w fun e w' => e = .returned (.int .i64 (getI l 0)) ∧ New w w' := by
  obtain ⟨ao, cap, rfl, hc, hm, hao, hx⟩ := h.open
  have HS := Lib.hid (h.alloc (.cells #[.int .i64 n, .slice ao l.length cap] 25))
  clear h
  go_enter Try.func12, Try.ntmps12
  go_wp2_with (go_at_call 26; refine (at_any _ _ l _ _ HS.out).mono ?_; rintro e w' ⟨rfl, hb⟩)
  go_ret
  exact ⟨rfl, New.trans ((Below.refl _ _).alloc (Nat.le_refl _) _) hb⟩

theorem tail_any (n : Int) (v : Value) (l : List Int) (w : World) (h : SlI w v l) :
    Calls Try.prog 14 #[.agg #[.int .i64 n, v]] w fun e w' => e = .returned (.int .i64 (getI l (l.length - 1))) ∧ New w w' := by
  obtain ⟨ao, cap, rfl, hc, hm, hao, hx⟩ := h.open
  have HS := Lib.hid (h.alloc (.cells #[.int .i64 n, .slice ao l.length cap] 25))
  clear h
  go_enter Try.func14, Try.ntmps14
  go_wp2_with (go_at_call 26; refine (at_any _ _ l _ _ HS.out).mono ?_; rintro e w' ⟨rfl, hb⟩)
  go_ret
  exact ⟨rfl, New.trans ((Below.refl _ _).alloc (Nat.le_refl _) _) hb⟩

def sideC (l : List Int) (x by_ : Int) : Int := if idx x l 0 < 0 then 0 else getI l (idx x l 0 + by_)

theorem side_any (n : Int) (v : Value) (l : List Int) (x d : Int) (w : World) (h : SlI w v l) (hd : -10 ≤ d ∧ d ≤ 10) :
    Calls Try.prog 31 #[.agg #[.int .i64 n, v], .int .i64 x, .int .i64 d] w fun e w' => e = .returned (.int .i64 (sideC l x d)) ∧ New w w' := by
  obtain ⟨ao, cap, rfl, hc, hm, hao, hx⟩ := h.open
  have HS := Lib.hid (h.alloc (.cells #[.int .i64 n, .slice ao l.length cap] 25))
  clear h
  have hi := idx_lt (x := x) l 0 (by omega)
  obtain ⟨j, hj⟩ : ∃ j, j = idx x l 0 := ⟨_, rfl⟩
  have hcall := fun w h => index_any (.slice ao l.length cap) l x w h
  rw [← hj] at hi hcall
  have hres : sideC l x d = if j < 0 then 0 else getI l (j + d) := by unfold sideC; rw [← hj]
  rw [hres]
  have HC := Lib.hid hcall
  clear hcall hres hj
  by_cases c : j < 0
  · rw [if_pos c]
    go_enter Try.func31, Try.ntmps31
    go_wp2_with (first | (go_at_call 29; refine (HC.out _ HS.out).mono ?_; rintro e w' ⟨rfl, rfl⟩))
    go_ret
    exact ⟨rfl, (Below.refl _ _).alloc (Nat.le_refl _) _⟩
  · rw [if_neg c]
    go_enter Try.func31, Try.ntmps31
    go_wp2_with (first | (go_at_call 29; refine (HC.out _ HS.out).mono ?_; rintro e w' ⟨rfl, rfl⟩) | (go_at_call 26; refine (at_any _ _ l _ _ HS.out).mono ?_; rintro e w' ⟨rfl, hb⟩))
    go_ret
    exact ⟨rfl, New.trans ((Below.refl _ _).alloc (Nat.le_refl _) _) hb⟩

theorem next_any (n : Int) (v : Value) (l : List Int) (x : Int) (w : World) (h : SlI w v l) :
    Calls Try.prog 21 #[.agg #[.int .i64 n, v], .int .i64 x] w fun e w' => e = .returned (.int .i64 (sideC l x 1)) ∧ New w w' := by
  obtain ⟨ao, cap, rfl, hc, hm, hao, hx⟩ := h.open
  have HS := Lib.hid (h.alloc (.cells #[.int .i64 n, .slice ao l.length cap] 25))
  clear h
  go_enter Try.func21, Try.ntmps21
  go_wp2_with (go_at_call 31; refine (side_any _ _ l _ _ _ HS.out (by omega)).mono ?_; rintro e w' ⟨rfl, hb⟩)
  go_ret
  exact ⟨rfl, New.trans ((Below.refl _ _).alloc (Nat.le_refl _) _) hb⟩
theorem prev_any (n : Int) (v : Value) (l : List Int) (x : Int) (w : World) (h : SlI w v l) :
    Calls Try.prog 23 #[.agg #[.int .i64 n, v], .int .i64 x] w fun e w' => e = .returned (.int .i64 (sideC l x (-1))) ∧ New w w' := by
  obtain ⟨ao, cap, rfl, hc, hm, hao, hx⟩ := h.open
  have HS := Lib.hid (h.alloc (.cells #[.int .i64 n, .slice ao l.length cap] 25))
  clear h
  go_enter Try.func23, Try.ntmps23
  go_wp2_with (go_at_call 31; refine (side_any _ _ l _ _ _ HS.out (by omega)).mono ?_; rintro e w' ⟨rfl, hb⟩)
  go_ret
  exact ⟨rfl, New.trans ((Below.refl _ _).alloc (Nat.le_refl _) _) hb⟩
end Go.Proofs.Ytbomebnonkcieaa
