/- More walk rules. -/
import Derived.Test.YtfphhdcpjoajbaaV16
namespace Go.VM
open Go.RowKit Go.Draw
variable {P : Program} {T : List Ty} {N : Nat}
def loopX {X : Type} (N : Nat) (sf : X → List VV) (sh : X → Heap) (I : X → Prop) (μ : X → Nat) (x : X) (K : Exit → List VV → Heap → Prop) : Exit → List VV → Heap → Prop := loopE N (fun x => (sf x, sh x)) I μ x K
theorem sem_loopX (hT : TOk P T) (hN : 1 ≤ N) {c : Code} {f : List VV} {h : Heap} {K : Exit → List VV → Heap → Prop} {X : Type} (sf : X → List VV) (sh : X → Heap) (I : X → Prop) (μ : X → Nat) (x0 : X) (h0 : I x0) (hs : StR N f h (sf x0, sh x0))
    (round : ∀ x, I x → codeK P T N c (sf x) (sh x) (loopX N sf sh I μ x K)) : codeK P T N (.loop c) f h K :=
  sem_loop hT hN (fun x => (sf x, sh x)) I μ x0 h0 hs round
section
variable {f : List VV} {h : Heap} {K : Exit → List VV → Heap → Prop} {X : Type} {sf : X → List VV} {sh : X → Heap} {I : X → Prop} {μ : X → Nat} {x : X}
theorem e_loop_exit {i : Nat} (k : K (.exit i) f h) : loopX N sf sh I μ x K (.exit i) f h := k
theorem e_loop_ret (k : K .ret f h) : loopX N sf sh I μ x K .ret f h := k
theorem e_loop (x' : X) (hI : I x') (hμ : μ x' < μ x) (hs : StR N f h (sf x', sh x')) : loopX N sf sh I μ x K .normal f h := ⟨x', hI, hμ, hs⟩
end
theorem c_draw' (hT : TOk P T) (hm : P.follows .mixedOrders = true) {id : Nat} {ops : Array Oper} {f : List VV} {h : Heap} {K : Exit → List VV → Heap → Prop} (p : Plan) (ds : List Nat) (hp : p.fits ops = true)
    (k : ∀ K' : List VV → Heap → Prop, (∀ f h, K .normal f h → K' f h) → filK ds h.es fun es => planK P T ops.toList ⟨h.n, es⟩ p f h K') : codeK P T N (.region id ops true) f h K :=
  sem_draw hT hm p ds hp (k _ fun _ _ h => h)
/-- every entry as it was -/
theorem EsS.refl {n : Nat} {es : List (Nat × VObj)} : ∀ {r : List (Nat × VObj)}, (∀ e ∈ r, e ∈ es) → (∀ e ∈ r, e.1 < n ∧ e.2.wf n) → EsS n es r
  | [], _, _ => trivial
  | e :: r, h, k => ⟨⟨(k e (by simp)).1, (k e (by simp)).2, e.2, h e (by simp), Cov.refl _⟩, EsS.refl (fun x hx => h x (List.mem_cons_of_mem _ hx)) fun x hx => k x (List.mem_cons_of_mem _ hx)⟩
theorem takeC_rows' {A : Type} {enc : A → List VV} {s : Nat} (he : ∀ x, (enc x).length = s) {l : List A} {i : Nat} (hi : i < l.length) {K : List VV → Prop} (hk : K (enc l[i])) {off : Nat} (ho : off = i * s) : takeC (rowsV enc l) off s K :=
  takeC_rows he (List.getElem?_eq_getElem hi) hk ho
theorem nat_toNat (i : Nat) : ((i : Int)).toNat = i := by simp
/-- of these cells none points anywhere -/
def FlatL (cs : List VV) : Prop := (∀ θ, renL θ cs = cs) ∧ ∀ n, scL n cs
theorem FlatL.nil : FlatL [] := ⟨fun _ => rfl, fun _ => trivial⟩
theorem FlatL.int {k : IntKind} {a : Int} {cs : List VV} (h : FlatL cs) : FlatL (.int k a :: cs) := ⟨fun θ => by simp [renL, ren, h.1 θ], fun n => ⟨trivial, h.2 n⟩⟩
theorem FlatL.bool {b : Bool} {cs : List VV} (h : FlatL cs) : FlatL (.bool b :: cs) := ⟨fun θ => by simp [renL, ren, h.1 θ], fun n => ⟨trivial, h.2 n⟩⟩
theorem FlatL.str {b : ByteArray} {cs : List VV} (h : FlatL cs) : FlatL (.str b :: cs) := ⟨fun θ => by simp [renL, ren, h.1 θ], fun n => ⟨trivial, h.2 n⟩⟩
theorem renL_app (θ : Nat → Nat) (a b : List VV) : renL θ (a ++ b) = renL θ a ++ renL θ b := by rw [renL_eq, renL_eq, renL_eq, List.map_append]
theorem FlatL.app {a b : List VV} (h : FlatL a) (k : FlatL b) : FlatL (a ++ b) := ⟨fun θ => by rw [renL_app, h.1, k.1], fun n => (scL_iff _ _).2 fun v hv => by
  rcases List.mem_append.1 hv with hv | hv
  · exact (scL_iff _ _).1 (h.2 n) v hv
  · exact (scL_iff _ _).1 (k.2 n) v hv⟩
theorem FlatL.bytes : ∀ l : List UInt8, FlatL (bytesV l)
  | [] => .nil
  | _ :: l => .int (FlatL.bytes l)
theorem FlatL.rows {A : Type} {enc : A → List VV} (h : ∀ x, FlatL (enc x)) : ∀ l : List A, FlatL (rowsV enc l)
  | [] => .nil
  | x :: l => by rw [rowsV_cons]; exact (h x).app (FlatL.rows h l)
theorem scL_agg {n : Nat} {cs : List VV} (h : FlatL cs) : wf n (.agg cs) := by simpa [wf, wf1] using h.2 n
theorem ren_agg {θ : Nat → Nat} {cs : List VV} (h : FlatL cs) : ren θ (.agg cs) = .agg cs := by simp [ren, h.1]
theorem wf_ro {n o : Nat} {cs : List VV} (h : FlatL cs) : (VObj.ro o cs).wf n := h.2 n
theorem wf_row {n m : Nat} {t : TypeId} {cs : List VV} (h : FlatL cs) : (VObj.row cs t m).wf n := h.2 n
theorem esr_ro {θ : Nat → Nat} {n i o : Nat} {cs : List VV} {es r : List (Nat × VObj)} (hi : i < n) (hf : FlatL cs) (hm : (θ i, VObj.ro o cs) ∈ es) (hr : EsR θ n es r) : EsR θ n es ((i, .ro o cs) :: r) :=
  ⟨⟨hi, wf_ro hf, _, hm, by simp only [VObj.ren, hf.1]; exact Cov.refl _⟩, hr⟩
theorem esr_row {θ : Nat → Nat} {n i m : Nat} {t : TypeId} {cs : List VV} {es r : List (Nat × VObj)} (hi : i < n) (hf : FlatL cs) (hm : (θ i, VObj.row cs t m) ∈ es) (hr : EsR θ n es r) : EsR θ n es ((i, .row cs t m) :: r) :=
  ⟨⟨hi, wf_row hf, _, hm, by simp only [VObj.ren, hf.1]; exact Cov.refl _⟩, hr⟩
theorem esr_row_ro {θ : Nat → Nat} {n i m : Nat} {t : TypeId} {cs : List VV} {es r : List (Nat × VObj)} (hi : i < n) (hf : FlatL cs) (hm : (θ i, VObj.row cs t m) ∈ es) (hr : EsR θ n es r) : EsR θ n es ((i, .ro 0 cs) :: r) :=
  ⟨⟨hi, wf_ro hf, _, hm, by simp only [VObj.ren, hf.1]; exact cov_ro⟩, hr⟩
theorem apart_nil {θ : Nat → Nat} : Apart θ [] := List.Pairwise.nil
theorem apart_one {θ : Nat → Nat} {e : Nat × VObj} : Apart θ [e] := List.pairwise_singleton _ _
theorem ess_same {n : Nat} {e : Nat × VObj} {es r : List (Nat × VObj)} (hi : e.1 < n) (hw : e.2.wf n) (hm : e ∈ es) (hr : EsS n es r) : EsS n es (e :: r) := ⟨⟨hi, hw, e.2, hm, Cov.refl _⟩, hr⟩
theorem ess_cov {n i : Nat} {o o' : VObj} {es r : List (Nat × VObj)} (hi : i < n) (hw : o'.wf n) (hm : (i, o) ∈ es) (hc : Cov o o') (hr : EsS n es r) : EsS n es ((i, o') :: r) := ⟨⟨hi, hw, o, hm, hc⟩, hr⟩
theorem cov_drop {o k : Nat} {cs : List VV} : Cov (.ro o cs) (.ro (o + k) (cs.drop k)) := by
  refine ⟨fun σ w b h => ?_, fun h => by simp [VObj.owned] at h⟩
  simp only [OkObj] at h ⊢
  split
  · rename_i d hd
    rw [hd] at h
    intro j v hj
    rw [denL_eq, List.getElem?_map, List.getElem?_drop] at hj
    have := h (k + j) v (by rw [denL_eq, List.getElem?_map]; exact hj)
    rw [Nat.add_assoc]; exact this
  · rename_i hd
    rw [hd] at h
    simp only [] at h ⊢
    rw [h]; simp
theorem cov_none {o : VObj} {k : Nat} : Cov o (.ro k []) := by
  refine ⟨fun σ w b _ => ?_, fun h => by simp [VObj.owned] at h⟩
  simp only [OkObj]
  split
  · intro j v hj; simp [denL] at hj
  · trivial
theorem sub_ways {c l hh off size : Nat} {K : Nat → Prop} (cs : List VV) (h : hh ≤ c) (hl : cs.length = hh * size)
    (k : ∀ off', Cov (.ro off cs) (.ro off' (cs.drop (l * size))) → K off') : offK [Nat.beq c l] off (l * size) K := by
  refine offK_of (fun heq => k off ?_) fun _ => k _ cov_drop
  have : cs.drop (l * size) = [] := by
    rw [List.drop_eq_nil_iff, hl]
    exact Nat.mul_le_mul_right _ (by omega)
  rw [this]
  exact cov_none
/-- a call of one that knows nothing and hands back a plain value -/
theorem call0 {g : FuncId} {H : Heap} {args : List VV} {K : VV → Heap → Prop} (hpos : 1 ≤ H.n) (hargs : ∀ θ, renL θ args = args) (hwa : wfArgs 1 args)
    (G : Gam P g args ⟨1, []⟩ fun r h' => (h' = ⟨1, []⟩ ∧ ∀ θ, ren θ r = r) ∧ K r H) : Gam P g args H K := by
  refine call_rule [] (h := ⟨1, []⟩) (args0 := args) rfl (hargs _).symm hwa (by simp) trivial apart_nil (G.mono ?_)
  rintro r h' ⟨⟨rfl, hr⟩, hk⟩ r2 n2 es2 rfl rfl rfl
  rw [hr]
  have : renEs (calT [] 1 H.n) [] ++ remEs (ownIds [] 1 H.n []) H.es = H.es := by
    simp [renEs, remEs, ownIds]
  rw [this]
  exact hk
theorem takeC_all {cs : List VV} {n : Nat} {K : List VV → Prop} (h : cs.length = n) (k : K cs) : takeC cs 0 n K := takeC_of (by omega) (by simpa [← h] using k)
end Go.VM
