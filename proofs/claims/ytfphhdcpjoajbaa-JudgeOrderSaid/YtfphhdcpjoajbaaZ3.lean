/- JudgeOrder: whatever the events by numbers and the turn, the law's call returns true, and they read as before. No condition. -/
import Derived.Test.YtfphhdcpjoajbaaZ1
import Derived.Test.YtfphhdcpjoajbaaJ22
import Derived.Test.YtfphhdcpjoajbaaV22
namespace Go.Proofs.Ytfphhdcpjoajbaa
open Go.ChangeShapes Go.WideShapes Go.ChangeAt Go.RowKit

theorem Try.flat56 : VM.flatT Try.prog 3 56 = some [.int .i64, .str, .str, .int .i64, .int .i64, .int .i64, .int .i64, .int .i64, .int .i64] := by kernel_rfl
theorem Try.cells56 : Try.prog.cellsOf 56 = 9 := by kernel_rfl
instance : Inhabited Or9 := ⟨⟨⟨0, ⟨#[]⟩, ⟨#[]⟩, 0⟩, 0, 0, 0, 0, 0⟩⟩
theorem or9_of {H : Type} {enc : TypeId × Value → H} {W : World} (fuel : Nat) (cs : List Value) (x : DataW H × List MemPlace) (h : DataW.trod enc Try.prog W 0 (fun _ => true) true fuel 56 cs = some x) : ∃ a : Or9, cs = (encOr a).map (VM.den fun _ => none) := by
  obtain ⟨hl, hx⟩ := VM.flatT_ok 3 56 _ fuel cs x Try.flat56 h
  match cs, hl with
  | [c0, c1, c2, c3, c4, c5, c6, c7, c8], _ =>
    obtain ⟨n0, rfl, _⟩ := hx 0 _ _ rfl rfl
    obtain ⟨n1, rfl, _⟩ := hx 1 _ _ rfl rfl
    obtain ⟨n2, rfl, _⟩ := hx 2 _ _ rfl rfl
    obtain ⟨n3, rfl, _⟩ := hx 3 _ _ rfl rfl
    obtain ⟨n4, rfl, _⟩ := hx 4 _ _ rfl rfl
    obtain ⟨n5, rfl, _⟩ := hx 5 _ _ rfl rfl
    obtain ⟨n6, rfl, _⟩ := hx 6 _ _ rfl rfl
    obtain ⟨n7, rfl, _⟩ := hx 7 _ _ rfl rfl
    obtain ⟨n8, rfl, _⟩ := hx 8 _ _ rfl rfl
    exact ⟨⟨⟨n0, n1, n2, n3⟩, n4, n5, n6, n7, n8⟩, rfl⟩
def sig1 (o1 : Option Nat) : VM.Sig := fun i => if i = 1 then o1 else none
theorem ok1 {W : World} {v : Value} {l : List Or9} {oa : Option Nat} {fa ca : Nat} (ha : VM.RowAt W v l.length (ro9 l) oa fa ca) : VM.Ok (sig1 oa) ⟨2, [(1, .ro fa (ro9 l))]⟩ W := by
  refine ⟨rfl, by simp, ?_, List.pairwise_singleton _ _, ?_⟩
  · intro e he
    simp only [List.mem_cons, List.not_mem_nil, or_false] at he
    subst he
    refine ⟨by simp, (flatRo9 l).2 2, ?_⟩
    simp only [VM.OkObj, sig1, if_true]
    cases oa with
    | none => exact ha.nil rfl
    | some d =>
      intro j u hu
      rw [VM.denL_eq, List.getElem?_map] at hu
      cases hx : (ro9 l)[j]? with
      | none => rw [hx] at hu; cases hu
      | some x =>
        rw [hx] at hu
        simp at hu
        rw [← hu, ha.cel d rfl j x hx]
        congr 1
        exact (VM.den_agree_sc (n := 0) (fun i hi => absurd hi (Nat.not_lt_zero i)) x ((VM.scL_iff 0 _).1 ((flatRo9 l).2 0) x (List.mem_of_getElem? hx)))
  · intro i _ d hd
    unfold sig1 at hd
    split at hd
    · exact ha.lt d hd
    · cases hd
theorem judgeOrder_yes {W : World} {v : Value} {l : List Or9} {oa : Option Nat} {fa ca : Nat} (ha : VM.RowAt W v l.length (ro9 l) oa fa ca) (turn : Int) :
    Calls Try.prog 4 #[v, .int .i64 turn] W fun e w' => e = .returned (.bool true) ∧ Below W.heap.size W w' := by
  refine VM.Gam.yes (JudgeOrder_spec l fa ca turn ha.small _ rfl) (ok1 ha) rfl ?_ (by simp [VM.VObj.owned])
  intro i x u hx hu
  rcases i with _ | _ | i <;> simp at hx hu <;> subst hx <;> subst hu
  · exact .inr ⟨by simp [VM.wf, VM.wf1, VM.sc], by rw [ha.val]; simp [VM.den, sig1]⟩
  · exact .inr ⟨trivial, by simp [VM.den]⟩

set_option maxRecDepth 100000 in
theorem judgeOrder_lifted (os : Os) (started : os.Started) (H : Type) (enc : TypeId × Value → H) :
    ReturnsInHanded {} Try.checked os 4 .any (Rows.judgeOrderSpec.pre6 enc Try.prog Try.f4 Rows.judgeOrderRow.domain false) (Rows.judgeOrderSpec.post enc Try.prog Try.f4 false true false false) := by
  refine returnsInHanded_of_change_sized (C := Try.checked) Try.own started (by kernel_rfl) Try.func4
    (ChangeSpec.witness6 (enc := enc) (C := Try.checked) false ⟨#[], #[.slice none 0 0, .int .i64 0], []⟩ 8 (by kernel_rfl) (by kernel_rfl) (by kernel_rfl) (by kernel_rfl)) ?_
  intro W base args ds gs before hval0 hW hcnd hsz0 _
  have hval : ∀ (j : Nat) t v, Try.f4.params[j]? = some t → args[j]? = some v → Value.okWide Try.prog W .any base t v := hval0
  have hW' := hW
  obtain ⟨p, q, hA0, hV, rfl, hfz, hnd⟩ := hW
  have hA : DataW.TrodAll enc Try.prog W 0 (fun _ => true) true Try.f4.params.toList args.toList ds p := hA0
  have hsz : (DataW.weightsEach Try.prog (Try.f4.params.toList ++ Rows.judgeOrderSpec.plain.varTypes Try.prog) (ds ++ gs)).all (· ≤ reachBytes) = true := hsz0
  rw [Try.params4] at hA hval hsz
  obtain ⟨v0, v1, d0, d1, p0, p1, rfl, rfl, rfl, h0, h1⟩ := trodAll_two hA
  obtain ⟨rfl, rfl⟩ := trodVars_none hV
  obtain ⟨l, oa, fa, ca, ha⟩ := VM.open_rows encOr_len Try.underlying31 Try.cells56 (of_decide_eq_true (by kernel_rfl)) or9_of (hval 0 31 v0 rfl rfl) h0 hsz (j := 0) rfl rfl
  obtain ⟨turn, rfl, rfl, rfl, wt⟩ := open_int Try.underlying3 (hval 1 3 v1 rfl rfl) h1
  clear hA0 hval0 hsz0
  simp only [List.append_nil] at hW'
  have hlt0 : ∀ y ∈ p0, y.block < W.heap.size := fun y hy => by simpa using hW'.lt y (by simp [hy])
  refine (judgeOrder_yes ha turn).mono fun e W' ⟨he, hw⟩ => ?_
  subst he
  refine ⟨_, rfl, _, _, _, [], p0 ++ [], [], hW', ?_, ?_, rfl, hw.frame _, fun h => by cases h⟩
  · exact trodAll_mk1 (shut_bool Try.underlying4 true)
  · exact trodAll_mk2 (Below.trod Try.laidOut (by kernel_rfl) (of_decide_eq_true (by kernel_rfl)) h0 hw hlt0) (shut_int Try.underlying3 wt)

/-- The given statement. -/
theorem judgeOrder_holds : Rows.JudgeOrderSaid :=
  OpenClaim.holds_of_wide 4 Try.f4 rfl rfl rfl rfl rfl rfl rfl ⟨rfl, rfl, rfl, rfl, rfl⟩ rfl rfl rfl rfl rfl (by kernel_rfl) Try.func4 (by kernel_rfl)
    (of_decide_eq_true (by kernel_rfl)) (by unfold Func.isWrapper; first | (rw [if_pos (by decide +kernel)]; kernel_rfl) | (rw [if_neg (by decide +kernel)]; exact ⟨rfl, rfl⟩))
    (fun os started H enc _ => judgeOrder_lifted os started H enc)
#print axioms judgeOrder_holds
end Go.Proofs.Ytfphhdcpjoajbaa
