/- From a contract over virtual values to what a row asks for. -/
import Derived.Test.YtfphhdcpjoajbaaV18
import Derived.Below
namespace Go.VM
open Go.RowKit
variable {P : Program}
theorem Gam.below {g : FuncId} {args : List VV} {h : Heap} {K : VV → Heap → Prop} (G : Gam P g args h K) {σ : Sig} {w : World} {us : Array Value} (k : Ok σ h w) (hs : us.size = args.length)
    (hf : ∀ (i : Nat) v u, args[i]? = some v → us[i]? = some u → FitV σ h.n v u) (hro : ∀ e ∈ h.es, e.2.owned = false) :
    Calls P g us w fun e w' => ∃ σ' h' v u, e = .returned u ∧ FitV σ' h'.n v u ∧ K v h' ∧ Below w.heap.size w w' := by
  refine (G.calls σ w us k hs hf).mono ?_
  rintro e w' ⟨σ', h', v, u, he, hv, st, hk⟩
  refine ⟨σ', h', v, u, he, hv, hk, st.os, st.tape, st.output, st.size, fun b hb => st.frame b hb ?_⟩
  rintro ⟨e, hem, ho, _⟩
  rw [hro e hem] at ho
  cases ho
theorem Ok.empty (w : World) : Ok (fun _ => none) ⟨1, []⟩ w := ⟨rfl, Nat.le_refl _, by simp, .nil, by simp⟩
/-- a law that says true -/
theorem Gam.yes {g : FuncId} {args : List VV} {h : Heap} (G : Gam P g args h fun v _ => v = .bool true) {σ : Sig} {w : World} {us : Array Value} (k : Ok σ h w) (hs : us.size = args.length)
    (hf : ∀ (i : Nat) v u, args[i]? = some v → us[i]? = some u → FitV σ h.n v u) (hro : ∀ e ∈ h.es, e.2.owned = false) :
    Calls P g us w fun e w' => e = .returned (.bool true) ∧ Below w.heap.size w w' := by
  refine (G.below k hs hf hro).mono ?_
  rintro e w' ⟨σ', h', v, u, rfl, hv, rfl, hb⟩
  obtain ⟨_, hu⟩ := hv.of rfl
  simp only [den] at hu
  exact ⟨by rw [hu], hb⟩
end Go.VM
