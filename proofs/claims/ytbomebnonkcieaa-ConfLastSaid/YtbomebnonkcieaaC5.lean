import Derived.Test.YtbomebnonkcieaaC4
namespace Go.Proofs.Ytbomebnonkcieaa
open Go.RowKit Go.Mem

theorem Try.info3 : (Try.prog.info? 3).map (fun i => (i.zero, i.size, i.bytes)) = some (some (.int .i64 0), 1, 8) := by kernel_rfl

/-! ### slices.Clone, slices.Delete -/
theorem rangeAt_new {W w' : World} {b o : Nat} {vs : List Value} (h : W.rangeAt b o vs) (hb : New W w') : w'.rangeAt b o vs := fun j u hu => by
  have := h j u hu
  rw [Below.cell hb (p := ⟨b, o + j, none⟩) (World.block_lt_of_cell? W _ this)]
  exact this

set_option maxHeartbeats 400000 in
/-- Clone of a slice of integers: a row of the call's own -/
theorem clone_any (v : Value) (l : List Int) (w : World) (h : SlI w v l) (hl : l.length ≤ 17592186044416) (B : Nat) (hB : B ≤ w.heap.size) :
    Calls Try.prog 28 #[v] w fun e w' => ∃ v', e = .returned v' ∧ Hid (w'.ownsRow B 3 1 v' l.length (l.map (Value.int .i64))) ∧ New w w' := by
  obtain ⟨i0, hi0, hz0, hz1, hz2⟩ := info_parts Try.info3
  obtain ⟨ao, cap, rfl, hc, hm, hr, hao, hnil⟩ := h
  cases ao with
  | none =>
    have hcap : cap = 0 := hao rfl
    have hl0 : l.length = 0 := by omega
    obtain rfl : l = [] := List.eq_nil_of_length_eq_zero hl0
    subst hcap
    clear hr hao hnil
    go_enter Try.func28, Try.ntmps28
    go_wp2
    go_ret
    exact ⟨_, rfl, World.ownsRow_nil _ _ _ _, New.refl _⟩
  | some ad =>
    have hcells : Hid (∀ j u, (l.map (Value.int .i64))[j]? = some u → (w.alloc (.cells #[] 3)).cell? (ad.add j) = some u) := by
      intro j u hu
      have hj : l.length ≠ 0 := by intro h0; rw [List.eq_nil_of_length_eq_zero h0] at hu; simp at hu
      obtain ⟨b, o, e, hx⟩ := hr hj
      cases e
      rw [Addr.add_mid, World.cell?_alloc_past _ _ _ (World.block_lt_of_cell? w _ (hx j u hu))]; exact hx j u hu
    have hlen : Hid (l.length ≤ 17592186044416) := hl
    have hown : Hid ((w.alloc (.cells #[] 3)).ownsRow B 3 1 (.slice (some ⟨w.heap.size, 0, none⟩) 0 0) 0 []) := World.ownsRow_made w #[] 0 hB (Nat.zero_le _) rfl
    have hones : Hid (∀ u ∈ l.map (Value.int .i64), u.oneCell' = true) := ints_oneCell _ _
    clear hr hao hnil hl
    go_enter Try.func28, Try.ntmps28
    go_wp2_with (at_builtin; refine wpList_append_own _ rfl _ _ 22 rfl B 3 i0 (.int .i64 0) 1 8 Try.underlying22 hi0 hz0 hz1 hz2 rfl (by decide) (.slice (some ⟨w.heap.size, 0, none⟩) 0 0) 0 [] rfl hown.out ad l.length cap (l.map (Value.int .i64)) rfl (by simp) hcells.out hones.out (by have := hlen.out; unfold maxLen; omega) (by have := hlen.out; omega) (by simp; omega) ?_; intro v' w1 hown1 hgrow _; simp only [Nat.zero_add, List.nil_append] at hown1; have HO := Lib.hid hown1; clear hown1; have HG := Lib.hid hgrow; clear hgrow)
    go_ret
    exact ⟨_, rfl, HO.out, Below.grown ((Below.refl _ _).alloc (Nat.le_refl _) _) HG.out (by simp) (by simp [Value.ownBlock])⟩
end Go.Proofs.Ytbomebnonkcieaa
