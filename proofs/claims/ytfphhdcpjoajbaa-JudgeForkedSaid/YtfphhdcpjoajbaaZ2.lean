/- JudgeForked: whatever the two strings of bytes, the law's call returns true, and they read as before. No condition. -/
import Derived.Test.YtfphhdcpjoajbaaZ1
import Derived.Test.YtfphhdcpjoajbaaJ18
namespace Go.Proofs.Ytfphhdcpjoajbaa
open Go.ChangeShapes Go.WideShapes Go.ChangeAt Go.RowKit

theorem Try.bytes5 : Try.prog.bytesOf 5 = 1 := by kernel_rfl
theorem Try.cells5 : Try.prog.cellsOf 5 = 1 := by kernel_rfl
/-- a slice of bytes, as it lies -/
structure ByAt (W : World) (v : Value) (l : List UInt8) (ob : Option Nat) (off cap : Nat) : Prop where
  val : v = .slice (ob.map fun d => ⟨d, off, none⟩) l.length cap
  nil : ob = none → l = []
  small : l.length < 4611686018427387904
  lt : ∀ d, ob = some d → d < W.heap.size
  cel : ∀ d, ob = some d → ∀ (j : Nat) (u : UInt8), l[j]? = some u → W.cell? ⟨d, off + j, none⟩ = some (.int .u8 u.toNat)
theorem u8_of (z : Int) (h : (Lit.int .u8 z).wf = true) : ((UInt8.ofNat z.toNat).toNat : Int) = z := by
  simp only [Lit.wf, Bool.and_eq_true, decide_eq_true_eq] at h
  have h1 : (0 : Int) ≤ z := h.1
  have h2 : z ≤ (255 : Int) := h.2
  have : z.toNat < 256 := by omega
  simp [UInt8.toNat_ofNat', Nat.mod_eq_of_lt this]
  omega
theorem open_by {H : Type} {enc : TypeId × Value → H} {W : World} {base : Nat} {v : Value} {d : DataW H} {p : List MemPlace} {ts : List TypeId} {ds : List (DataW H)} {j : Nat}
    (hv : Value.okWide Try.prog W .any base 22 v) (h : DataW.Trod enc Try.prog W 0 (fun _ => true) true 22 v d p)
    (hs : (DataW.weightsEach Try.prog ts ds).all (· ≤ reachBytes) = true) (ht : ts[j]? = some 22) (hd : ds[j]? = some d) : ∃ l ob off cap, ByAt W v l ob off cap := by
  obtain ⟨a0, len, cap, rfl⟩ := okWide_slice Try.underlying22 hv
  obtain ⟨fuel, hf⟩ := h
  rcases open_ints Try.underlying22 Try.underlying5 Try.cells5 hf with ⟨hcs, hx⟩ | ⟨a, len', cap', zs, hcs, _, hl, hm, hz, hx, hcell, hwz⟩
  · simp [Value.cells] at hcs
    obtain ⟨rfl, rfl, rfl⟩ := hcs
    exact ⟨[], none, 0, 0, rfl, fun _ => rfl, by simp, (by intro d h; cases h), (by intro d h; cases h)⟩
  · simp [Value.cells] at hcs
    obtain ⟨rfl, rfl, rfl⟩ := hcs
    simp only [Prod.mk.injEq] at hx
    obtain ⟨rfl, rfl⟩ := hx
    simp only [if_true] at hz
    have hsz := sized_slice hs ht hd Try.underlying22
    rw [Try.bytes5] at hsz
    have hcl : cap * 1 ≤ 140737488351232 := by
      have : (zs.take len).length + (zs.drop len).length = cap := by simp; omega
      have e : ∀ xs : List Int, (lits (H := H) .u8 xs).length = xs.length := fun xs => by simp [lits]
      rw [e, e, this] at hsz
      exact hsz
    have hok : Cell.ok Try.prog W .any base 22 (.slice (some a) len cap) := by
      have hv' := hv
      simp only [Value.okWide, Try.underlying22, Cell.okWide] at hv'
      exact hv'
    simp only [Cell.ok, Try.underlying22] at hok
    obtain ⟨_, _, hhas⟩ := hok
    obtain ⟨_, hspot, row, cells, hshape, _⟩ := hhas
    obtain ⟨b, off, spot⟩ := a
    dsimp only at hspot
    subst hspot
    have hblt : b < W.heap.size := by
      dsimp only at hshape
      unfold World.shape? at hshape
      cases hb : W.heap[b]? with
      | none => simp [hb] at hshape
      | some o => exact (Array.getElem?_eq_some_iff.1 hb).1
    refine ⟨(zs.take len).map fun z => UInt8.ofNat z.toNat, some b, off, cap, ?_, (by intro h; cases h), ?_, ?_, ?_⟩
    · simp; omega
    · simp; omega
    · intro d hd; cases hd; exact hblt
    · intro d hd j u hu
      cases hd
      rw [List.getElem?_map] at hu
      cases hz' : (zs.take len)[j]? with
      | none => rw [hz'] at hu; cases hu
      | some z =>
        rw [hz'] at hu
        simp at hu
        subst hu
        have hj : j < len ∧ zs[j]? = some z := by
          rw [List.getElem?_take] at hz'
          split at hz'
          · exact ⟨by assumption, hz'⟩
          · cases hz'
        have hjl : j < zs.length := (List.getElem?_eq_some_iff.1 hj.2).1
        have := hcell j hjl
        rw [Addr.add_mid] at this
        rw [this, u8_of z (hwz z (List.mem_of_getElem? hj.2)), List.getD_eq_getElem?_getD, hj.2]
        rfl
def sig2 (o1 o2 : Option Nat) : VM.Sig := fun i => if i = 1 then o1 else if i = 2 then o2 else none
theorem ok2 {W : World} {v w : Value} {la lb : List UInt8} {oa ob : Option Nat} {fa ca fb cb : Nat} (ha : ByAt W v la oa fa ca) (hb : ByAt W w lb ob fb cb) :
    VM.Ok (sig2 oa ob) ⟨3, [(1, .ro fa (VM.bytesV la)), (2, .ro fb (VM.bytesV lb))]⟩ W := by
  have key : ∀ {v : Value} {l : List UInt8} {o : Option Nat} {f c : Nat} (i : Nat), sig2 oa ob i = o → ByAt W v l o f c → VM.OkObj (sig2 oa ob) W i (.ro f (VM.bytesV l)) := by
    intro v l o f c i hi h
    simp only [VM.OkObj, hi]
    cases o with
    | none => rw [h.nil rfl]; rfl
    | some d =>
      intro j u hu
      rw [VM.denL_eq, VM.bytesV, List.map_map, List.getElem?_map] at hu
      cases hx : l[j]? with
      | none => rw [hx] at hu; cases hu
      | some x =>
        rw [hx] at hu
        simp [VM.den] at hu
        rw [← hu]
        exact h.cel d rfl j x hx
  refine ⟨rfl, by simp, ?_, ?_, ?_⟩
  · intro e he
    simp only [List.mem_cons, List.not_mem_nil, or_false] at he
    rcases he with rfl | rfl
    · exact ⟨by simp, (VM.FlatL.bytes la).2 3, key 1 rfl ha⟩
    · exact ⟨by simp, (VM.FlatL.bytes lb).2 3, key 2 rfl hb⟩
  · refine List.pairwise_cons.2 ⟨?_, List.pairwise_singleton _ _⟩
    intro e he d _ _
    simp only [List.mem_cons, List.not_mem_nil, or_false] at he
    subst he
    exact ⟨rfl, rfl⟩
  · intro i _ d hd
    unfold sig2 at hd
    split at hd
    · exact ha.lt d hd
    · split at hd
      · exact hb.lt d hd
      · cases hd
theorem judgeForked_yes {W : World} {v w : Value} {la lb : List UInt8} {oa ob : Option Nat} {fa ca fb cb : Nat} (ha : ByAt W v la oa fa ca) (hb : ByAt W w lb ob fb cb) :
    Calls Try.prog 3 #[v, w] W fun e w' => e = .returned (.bool true) ∧ Below W.heap.size W w' := by
  refine VM.Gam.yes (JudgeForked_spec la lb fa ca fb cb ha.small hb.small _ rfl) (ok2 ha hb) rfl ?_ (by simp [VM.VObj.owned])
  intro i x u hx hu
  rcases i with _ | _ | i <;> simp at hx hu <;> subst hx <;> subst hu
  · exact .inr ⟨by simp [VM.wf, VM.wf1, VM.sc], by rw [ha.val]; simp [VM.den, sig2]⟩
  · exact .inr ⟨by simp [VM.wf, VM.wf1, VM.sc], by rw [hb.val]; simp [VM.den, sig2]⟩

set_option maxRecDepth 100000 in
theorem judgeForked_lifted (os : Os) (started : os.Started) (H : Type) (enc : TypeId × Value → H) :
    ReturnsInHanded {} Try.checked os 3 .any (Rows.judgeForkedSpec.pre6 enc Try.prog Try.f3 Rows.judgeForkedRow.domain false) (Rows.judgeForkedSpec.post enc Try.prog Try.f3 false true false false) := by
  refine returnsInHanded_of_change_sized (C := Try.checked) Try.own started (by kernel_rfl) Try.func3
    (ChangeSpec.witness6 (enc := enc) (C := Try.checked) false ⟨#[], #[.slice none 0 0, .slice none 0 0], []⟩ 8 (by kernel_rfl) (by kernel_rfl) (by kernel_rfl) (by kernel_rfl)) ?_
  intro W base args ds gs before hval0 hW hcnd hsz0 _
  have hval : ∀ (j : Nat) t v, Try.f3.params[j]? = some t → args[j]? = some v → Value.okWide Try.prog W .any base t v := hval0
  have hW' := hW
  obtain ⟨p, q, hA0, hV, rfl, hfz, hnd⟩ := hW
  have hA : DataW.TrodAll enc Try.prog W 0 (fun _ => true) true Try.f3.params.toList args.toList ds p := hA0
  have hsz : (DataW.weightsEach Try.prog (Try.f3.params.toList ++ Rows.judgeForkedSpec.plain.varTypes Try.prog) (ds ++ gs)).all (· ≤ reachBytes) = true := hsz0
  rw [Try.params3] at hA hval hsz
  obtain ⟨v0, v1, d0, d1, p0, p1, rfl, rfl, rfl, h0, h1⟩ := trodAll_two hA
  obtain ⟨rfl, rfl⟩ := trodVars_none hV
  obtain ⟨la, oa, fa, ca, ha⟩ := open_by (hval 0 22 v0 rfl rfl) h0 hsz (j := 0) rfl rfl
  obtain ⟨lb, ob, fb, cb, hb⟩ := open_by (hval 1 22 v1 rfl rfl) h1 hsz (j := 1) rfl rfl
  clear hA0 hval0 hsz0
  simp only [List.append_nil] at hW'
  have hlt0 : ∀ y ∈ p0, y.block < W.heap.size := fun y hy => by simpa using hW'.lt y (by simp [hy])
  have hlt1 : ∀ y ∈ p1, y.block < W.heap.size := fun y hy => by simpa using hW'.lt y (by simp [hy])
  refine (judgeForked_yes ha hb).mono fun e W' ⟨he, hw⟩ => ?_
  subst he
  refine ⟨_, rfl, _, _, _, [], p0 ++ p1, [], hW', ?_, ?_, rfl, hw.frame _, fun h => by cases h⟩
  · exact trodAll_mk1 (shut_bool Try.underlying4 true)
  · exact trodAll_mk2 (Below.trod Try.laidOut (by kernel_rfl) (of_decide_eq_true (by kernel_rfl)) h0 hw hlt0) (Below.trod Try.laidOut (by kernel_rfl) (of_decide_eq_true (by kernel_rfl)) h1 hw hlt1)

/-- The given statement. -/
theorem judgeForked_holds : Rows.JudgeForkedSaid :=
  OpenClaim.holds_of_wide 3 Try.f3 rfl rfl rfl rfl rfl rfl rfl ⟨rfl, rfl, rfl, rfl, rfl⟩ rfl rfl rfl rfl rfl (by kernel_rfl) Try.func3 (by kernel_rfl)
    (of_decide_eq_true (by kernel_rfl)) (by unfold Func.isWrapper; first | (rw [if_pos (by decide +kernel)]; kernel_rfl) | (rw [if_neg (by decide +kernel)]; exact ⟨rfl, rfl⟩))
    (fun os started H enc _ => judgeForked_lifted os started H enc)
#print axioms judgeForked_holds
end Go.Proofs.Ytfphhdcpjoajbaa
