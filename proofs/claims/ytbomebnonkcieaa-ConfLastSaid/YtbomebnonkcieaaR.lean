/- What the rows of slices of integers share. -/
import Derived.Test.YtbomebnonkcieaaM
import Derived.Test.YtbomebnonkcieaaProg
import Derived.ProofKit
import Derived.SizedLaws
namespace Go.Proofs.Ytbomebnonkcieaa
open Go.ChangeShapes Go.WideShapes Go.ChangeAt Go.RowKit Go.Mem

theorem Try.own : ownKnob Try.prog.godebug = none := by kernel_rfl
theorem Try.laidOut : laidOutB Try.prog = true := by kernel_rfl
theorem Try.bytes3 : Try.prog.bytesOf 3 = 8 := by kernel_rfl
theorem Try.cells3 : Try.prog.cellsOf 3 = 1 := by kernel_rfl

theorem open_sl {H : Type} {enc : TypeId × Value → H} {W : World} {base : Nat} {v : Value} {d : DataW H} {p : List MemPlace} {ts : List TypeId} {ds : List (DataW H)} {j : Nat}
    (hv : Value.okWide Try.prog W .any base 22 v) (h : DataW.Trod enc Try.prog W 0 (fun _ => true) true 22 v d p)
    (hs : (DataW.weightsEach Try.prog ts ds).all (· ≤ reachBytes) = true) (ht : ts[j]? = some 22) (hd : ds[j]? = some d) : ∃ l, SlI W v l := by
  obtain ⟨a0, len, cap, rfl⟩ := okWide_slice Try.underlying22 hv
  obtain ⟨fuel, hf⟩ := h
  rcases open_ints Try.underlying22 Try.underlying3 Try.cells3 hf with ⟨hcs, hx⟩ | ⟨a, len', cap', zs, hcs, _, hl, hm, hz, hx, hcell, hwz⟩
  · simp [Value.cells] at hcs
    obtain ⟨rfl, rfl, rfl⟩ := hcs
    exact ⟨[], Sl.nil _⟩
  · simp [Value.cells] at hcs
    obtain ⟨rfl, rfl, rfl⟩ := hcs
    simp only [Prod.mk.injEq] at hx
    obtain ⟨rfl, rfl⟩ := hx
    simp only [if_true] at hz
    have hsz := sized_slice hs ht hd Try.underlying22
    rw [Try.bytes3] at hsz
    have hlen : (zs.take len).length = len := by simp; omega
    have hcl : cap * 8 ≤ 140737488351232 := by
      have : (zs.take len).length + (zs.drop len).length = cap := by simp; omega
      have e : ∀ xs : List Int, (lits (H := H) .i64 xs).length = xs.length := fun xs => by simp [lits]
      rw [e, e, this] at hsz
      exact hsz
    refine ⟨zs.take len, some a, cap, by rw [hlen], by omega, by omega, fun hn => ?_, fun h => by simp at h, fun hn => ?_⟩
    · have h0 := hcell 0 (by omega)
      obtain ⟨b, off, spot⟩ := a
      have hsp : spot = none := by
        cases spot with
        | none => rfl
        | some x =>
          simp only [Addr.add, if_true, World.cell?] at h0
          split at h0 <;> simp at h0
      subst hsp
      refine ⟨b, off, rfl, fun j u hu => ?_⟩
      rw [List.getElem?_map] at hu
      have hj : j < len := by
        by_cases h : j < len
        · exact h
        · rw [List.getElem?_eq_none (by omega)] at hu; cases hu
      have := hcell j (by omega)
      rw [Addr.add_mid] at this
      rw [this]
      rw [List.getElem?_take, if_pos hj, List.getElem?_eq_getElem (by omega)] at hu
      simp at hu
      rw [← hu, List.getD_eq_getElem?_getD, List.getElem?_eq_getElem (by omega)]
      rfl
    · rw [List.eq_nil_of_length_eq_zero hn]; rfl
end Go.Proofs.Ytbomebnonkcieaa
