/- What the single operations do, over virtual values. -/
import Derived.Test.YtfphhdcpjoajbaaV2
import Derived.Laws.Rows
import Derived.Deep.OwnRows
namespace Go.VM
open Go.RowKit
variable {P : Program}

theorem _root_.List.take_set_of_le_aux {α : Type} {l : List α} {n : Nat} (h : n < l.length) (v : α) : (l.set n v).take (n + 1) = l.take n ++ [v] := by
  rw [List.take_succ_eq_append_getElem (by simpa using h)]
  simp [List.take_set_of_le]

/-! ### Blocks -/
def _root_.Go.World.putObj (w : World) (d : Nat) (o : Obj) : World := { w with heap := w.heap.setIfInBounds d o }
theorem putObj_other (w : World) (d : Nat) (o : Obj) (b : Nat) (h : b ≠ d) : (w.putObj d o).heap[b]? = w.heap[b]? := by
  simp only [World.putObj]
  rw [Array.getElem?_setIfInBounds_ne (Ne.symm h)]
theorem putObj_self (w : World) (d : Nat) (o : Obj) (h : d < w.heap.size) : (w.putObj d o).heap[d]? = some o := by
  simp [World.putObj, h]
theorem putObj_putObj (w : World) (d : Nat) (o o' : Obj) : (w.putObj d o).putObj d o' = w.putObj d o' := by
  simp [World.putObj]
theorem putObj_same (w : World) (d : Nat) (o : Obj) (h : w.heap[d]? = some o) : w.putObj d o = w := by
  have : w.heap.setIfInBounds d o = w.heap := by
    apply Array.ext_getElem?
    intro i
    rw [Array.getElem?_setIfInBounds]
    split
    · rename_i e; subst e
      split
      · exact h.symm
      · rename_i hn; rw [Array.getElem?_eq_none (by omega)]
    · rfl
  unfold World.putObj
  rw [this]
theorem setCell_putObj (w : World) (d o : Nat) (c : Array Value) (t : TypeId) (fz : Nat × Nat) (v : Value) (h : w.heap[d]? = some (.cells c t fz)) :
    w.setCell ⟨d, o, none⟩ v = w.putObj d (.cells (c.setIfInBounds o v) t fz) := by
  have hl := (Array.getElem?_eq_some_iff.1 h).1
  unfold World.setCell World.putObj
  congr 1
  apply Array.ext_getElem?
  intro i
  dsimp only
  rw [Array.getElem?_modify, Array.getElem?_setIfInBounds]
  split
  · rename_i e; subst e
    rw [h]
    rfl
  · rfl
theorem run_storeCells_put (d o : Nat) (t : TypeId) (fz : Nat × Nat) : ∀ (vs : List Value) (i : Nat) (c : Array Value) (w : World), w.heap[d]? = some (.cells c t fz) → o + i + vs.length ≤ c.size →
    (∀ j, j < c.size → ¬ (fz.1 ≤ j ∧ j < fz.2)) → (∀ v ∈ vs, v.oneCell' = true) →
    (storeCells ⟨d, o, none⟩ vs i).run P w = .ok () (w.putObj d (.cells (c.toList.take (o + i) ++ vs ++ c.toList.drop (o + i + vs.length)).toArray t fz))
  | [], i, c, w, hd, _, _, _ => by
    simp only [storeCells, List.append_nil, List.length_nil, Nat.add_zero, List.take_append_drop, Array.toArray_toList]
    rw [putObj_same w d _ hd]; rfl
  | v :: r, i, c, w, hd, hl, hf, h1 => by
    have hadd : (⟨d, o, none⟩ : Addr).add i = ⟨d, o + i, none⟩ := by unfold Addr.add; split <;> simp_all
    have hi : o + i < c.size := by simp at hl; omega
    have hlt := (Array.getElem?_eq_some_iff.1 hd).1
    have hcell : w.cell? ⟨d, o + i, none⟩ = some c[o + i] := by simp [World.cell?, hd, hi]
    have hfz : w.frozen? ⟨d, o + i, none⟩ = false := by
      have := hf (o + i) hi
      obtain ⟨lo, hi'⟩ := fz
      simp [World.frozen?, hd]
      intro h; omega
    have hv := h1 v List.mem_cons_self
    have hst : (Sem.store .plain (⟨d, o + i, none⟩ : Addr) v (Sem.pure ())).run P w = .ok () (w.putObj d (.cells (c.setIfInBounds (o + i) v) t fz)) := by
      cases v <;> simp [Value.oneCell'] at hv <;> simp [Sem.run, hcell, hfz, setCell_putObj w d (o + i) c t fz _ hd]
    have hst' : (store ((⟨d, o, none⟩ : Addr).add i) v).run P w = .ok () (w.putObj d (.cells (c.setIfInBounds (o + i) v) t fz)) := by rw [hadd]; exact hst
    simp only [storeCells]
    rw [Sem.run_bind, hst', Result.andThen_ok, run_storeCells_put d o t fz r (i + 1) (c.setIfInBounds (o + i) v) _ (putObj_self w d _ hlt) (by simp at hl ⊢; omega) (by simpa using hf) (fun u hu => h1 u (List.mem_cons_of_mem _ hu))]
    rw [putObj_putObj]
    congr 4
    have e1 : (c.setIfInBounds (o + i) v).toList = c.toList.set (o + i) v := by simp
    rw [e1]
    have hi' : o + i < c.toList.length := by simpa using hi
    have e2 : o + (i + 1) = o + i + 1 := by omega
    rw [e2, List.take_set_of_le_aux hi' v, List.length_cons]
    have e3 : (c.toList.set (o + i) v).drop (o + i + 1 + r.length) = c.toList.drop (o + i + (r.length + 1)) := by
      rw [List.drop_set_of_lt (by omega)]; congr 1; omega
    rw [e3]
    simp
end Go.VM
