import Derived.Test.YtbomebnonkcieaaC11
namespace Go.Proofs.Ytbomebnonkcieaa
open Go.RowKit Go.Mem

def eqC (n : Int) (l : List Int) (n' : Int) (l' : List Int) : Bool := decide (n = n' ∧ l = l')
theorem eqC_f1 {n n' : Int} {l l' : List Int} (h : ¬ n = n') : false = eqC n l n' l' := by simp [eqC, h]
theorem eqC_f2 {n n' : Int} {l l' : List Int} (h : ¬ l = l') : false = eqC n l n' l' := by simp [eqC, h]

set_option maxHeartbeats 800000 in
theorem eqConf_any (n : Int) (v : Value) (l : List Int) (n' : Int) (v' : Value) (l' : List Int) (w : World) (h : SlI w v l) (h' : SlI w v' l') :
    Calls Try.prog 20 #[.agg #[.int .i64 n, v], .agg #[.int .i64 n', v']] w fun e w' => e = .returned (.bool (eqC n l n' l')) ∧ New w w' := by
  obtain ⟨ao, cap, rfl, hc, hm, hao, hx⟩ := h.open
  obtain ⟨ao', cap', rfl, hc', hm', hao', hx'⟩ := h'.open
  clear h h'
  by_cases e1 : n = n'
  · subst e1
    by_cases e2 : l.length = l'.length
    · have t1 : (n != n) = false := by simp
      have t2 : ((l.length : Int) != (l'.length : Int)) = false := by simp [e2]
      have E2 := Lib.hid e2
      clear e2
      go_enter Try.func20, Try.ntmps20
      go_wp2_with fail
      obtain ⟨W, hW⟩ : ∃ W, W = (w.alloc (.cells #[.int .i64 n, .slice ao l.length cap] 25)).alloc (.cells #[.int .i64 n, .slice ao' l'.length cap'] 25) := ⟨_, rfl⟩
      have hW1 : W.cell? ⟨w.heap.size, 1, none⟩ = some (.slice ao l.length cap) := by subst hW; simp [go_sem]
      have hW2 : W.cell? ⟨w.heap.size + 1, 1, none⟩ = some (.slice ao' l'.length cap') := by subst hW; simp [go_sem]
      have hN : Hid (New w W) := by subst hW; exact ((Below.refl _ _).alloc (Nat.le_refl _) _).alloc (by simp) _
      have hWx : Hid (∀ k, k < l.length → ∃ b o y, ao = some ⟨b, o, none⟩ ∧ W.cell? ⟨b, o + k, none⟩ = some (.int .i64 y) ∧ Hid (l[k]? = some y)) := by
        intro k hk
        obtain ⟨b, o, y, rfl, hck, hy⟩ := hx.out k hk
        have := World.block_lt_of_cell? w _ hck
        exact ⟨b, o, y, rfl, (Below.cell hN.out (p := ⟨b, o + k, none⟩) this).trans hck, hy⟩
      have hWx' : Hid (∀ k, k < l'.length → ∃ b o y, ao' = some ⟨b, o, none⟩ ∧ W.cell? ⟨b, o + k, none⟩ = some (.int .i64 y) ∧ Hid (l'[k]? = some y)) := by
        intro k hk
        obtain ⟨b, o, y, rfl, hck, hy⟩ := hx'.out k hk
        have := World.block_lt_of_cell? w _ hck
        exact ⟨b, o, y, rfl, (Below.cell hN.out (p := ⟨b, o + k, none⟩) this).trans hck, hy⟩
      rw [← hW]
      clear hW hx hx'
      go_loopw [5] (fun i w' => ∃ k : Nat, k ≤ l.length ∧ i = .int .i64 k ∧ Hid (l.take k = l'.take k) ∧ Hid (New W w')) (fun i _ => l.length - (intOf i).toNat)
      case atStart => exact ⟨0, Nat.zero_le _, rfl, by simp [Hid], New.refl _⟩
      case round =>
        rename_i wr
        obtain ⟨k, hk, rfl, hi, hNr⟩ := hrel
        obtain ⟨r1, r2⟩ := hNr.out.cells
        have hbW := World.block_lt_of_cell? W _ hW1
        have hbW2 := World.block_lt_of_cell? W _ hW2
        by_cases hlt : k < l.length
        · obtain ⟨b, o, y, rfl, hck, hy⟩ := hWx.out k hlt
          have hlt' : k < l'.length := by have := E2.out; omega
          obtain ⟨b', o', y', rfl, hck', hy'⟩ := hWx'.out k hlt'
          have hblk := World.block_lt_of_cell? W _ hck
          have hblk' := World.block_lt_of_cell? W _ hck'
          have hk0 : (0 : Int) ≤ (k : Int) := by omega
          have hk1 : (k : Int) < (l.length : Int) := by omega
          have hk2 : (k : Int) < (l'.length : Int) := by omega
          by_cases he : y = y'
          · have hb : (y != y') = false := by simp [he]
            have HE := Lib.hid he
            clear he
            go_wp2_with fail
            go_quiet (fail)
            go_wp2_with fail
            go_roundw
            case rel => exact ⟨k + 1, by omega, by go_num, by
              show l.take (k+1) = l'.take (k+1)
              rw [take_succ_of hy.out, take_succ_of hy'.out, hi.out, HE.out], Below.drewN hNr.out _⟩
            case measure => simp [intOf]; omega
          · have hb : (y != y') = true := by simp [he]
            go_wp2_with fail
            go_quiet (fail)
            go_wp2_with fail
            go_ret
            refine ⟨ret_bool (eqC_f2 fun e => he ?_), New.trans hN.out (Below.drewN hNr.out _)⟩
            have h1 := hy.out
            rw [e, hy'.out] at h1
            exact (Option.some.inj h1).symm
        · go_wp2_with fail
          go_ret
          refine ⟨ret_bool (by
            have h1 := hi.out
            rw [List.take_of_length_le (by omega), List.take_of_length_le (by have := E2.out; omega)] at h1
            simp [eqC, h1]), New.trans hN.out hNr.out⟩
    · have t1 : (n != n) = false := by simp
      have t2 : ((l.length : Int) != (l'.length : Int)) = true := by simpa using fun h => e2 (by omega)
      have E2 := Lib.hid e2
      clear e2
      go_enter Try.func20, Try.ntmps20
      go_wp2_with fail
      go_ret
      exact ⟨ret_bool (eqC_f2 fun e => E2.out (by rw [e])), ((Below.refl _ _).alloc (Nat.le_refl _) _).alloc (by simp) _⟩
  · have t1 : (n != n') = true := by simpa using e1
    have E1 := Lib.hid e1
    clear e1
    go_enter Try.func20, Try.ntmps20
    go_wp2_with fail
    go_ret
    exact ⟨ret_bool (eqC_f1 E1.out), ((Below.refl _ _).alloc (Nat.le_refl _) _).alloc (by simp) _⟩
end Go.Proofs.Ytbomebnonkcieaa
