import Derived.Test.YtfphhdcpjoajbaaJ12
namespace Go.Proofs.Ytfphhdcpjoajbaa
open Go.VM Go.RowKit
instance : DecidableEq Res3 := fun a b => decidable_of_iff (a.ver = b.ver ∧ a.has = b.has ∧ a.val = b.val) ⟨fun h => by cases a; cases b; simp_all, fun h => by rw [h]; exact ⟨rfl, rfl, rfl⟩⟩
def rightGo (m : MapM) (prev : Option Int) : List Ev → Bool
  | [] => true
  | e :: r => (decide ((doM m e.op).2.1 = e.res) && decide ((doM m e.op).2.2 = e.err) && !(prev == some e.place)) && rightGo (doM m e.op).1 (some e.place) r
def leP (a b : Ev) : Bool := decide (a.place ≤ b.place)
def rightB (k : List Ev) : Bool := decide (k.map Ev.place).Nodup && rightGo (fun _ => zeroRec) none (k.mergeSort leP)
theorem rightGo_dup : ∀ (l : List Ev) (m : MapM) (p : Option Int), SortedL l → ¬ (l.map Ev.place).Nodup → rightGo m p l = false
  | [], _, _, _, hn => absurd (by simp) hn
  | [a], _, _, _, hn => absurd (by simp) hn
  | a :: b :: r, m, p, hs, hn => by
    rw [rightGo]
    have hs' := List.pairwise_cons.1 hs
    by_cases hab : a.place = b.place
    · rw [rightGo]
      simp [hab]
    · rw [rightGo_dup (b :: r) _ _ hs'.2 ?_]
      · simp
      · intro hnd
        refine hn ?_
        rw [List.map_cons, List.nodup_cons]
        refine ⟨?_, hnd⟩
        intro hm
        obtain ⟨x, hx, he⟩ := List.mem_map.1 hm
        have h1 := hs'.1 b (by simp)
        rcases List.mem_cons.1 hx with rfl | hx
        · exact hab he.symm
        · have h2 := (List.pairwise_cons.1 hs'.2).1 x hx
          omega
theorem mergeSort_sorted (k : List Ev) : SortedL (k.mergeSort leP) := by
  have := List.pairwise_mergeSort (le := leP) (by simp [leP]; intro a b c; omega) (by simp [leP]; intro a b; omega) k
  exact this.imp fun h => by simpa [leP] using h
theorem right_sorted {l k : List Ev} (hp : l.Perm k) (hs : SortedL l) : rightGo (fun _ => zeroRec) none l = rightB k := by
  unfold rightB
  by_cases hn : (k.map Ev.place).Nodup
  · simp only [hn, decide_true, Bool.true_and]
    have : l = k.mergeSort leP := by
      refine List.Perm.eq_of_pairwise (le := fun (a b : Ev) => a.place ≤ b.place) ?_ hs (mergeSort_sorted k) (hp.trans (List.mergeSort_perm k leP).symm)
      intro a b ha hb h1 h2
      have ha : a ∈ k := hp.mem_iff.1 ha
      have hb : b ∈ k := (List.mergeSort_perm k leP).mem_iff.1 hb
      have he : a.place = b.place := by omega
      obtain ⟨i, hi, rfl⟩ := List.mem_iff_getElem.1 ha
      obtain ⟨j, hj, rfl⟩ := List.mem_iff_getElem.1 hb
      have : i = j := by
        refine (List.getElem_inj (h₀ := by simpa using hi) (h₁ := by simpa using hj) hn).1 ?_
        simpa using he
      subst this; rfl
    rw [this]
  · simp only [hn, decide_false, Bool.false_and]
    exact rightGo_dup l _ _ hs fun h => hn ((hp.map _).nodup_iff.1 h)
theorem rightB_perm {k k' : List Ev} (h : k.Perm k') : rightB k = rightB k' := by
  rw [← right_sorted (List.mergeSort_perm k leP) (mergeSort_sorted k), right_sorted ((List.mergeSort_perm k leP).trans h) (mergeSort_sorted k)]
def I64 (a : Int) : Prop := -9223372036854775808 ≤ a ∧ a ≤ 9223372036854775807
theorem I64.wrap (a : Int) : I64 (IntKind.i64.wrap a) := by rw [IntKind.wrap_i64]; unfold I64; omega
def RecOk (r : Rec3) : Prop := I64 r.ver ∧ r.val.size ≤ maxLen
def ResOk (r : Res3) : Prop := I64 r.ver ∧ r.val.size ≤ maxLen
def EvOk (e : Ev) : Prop := ResOk e.res ∧ e.op.val.size ≤ maxLen
def MapOk (m : MapM) : Prop := ∀ k, RecOk (m k)
theorem zeroRec_ok : RecOk zeroRec := ⟨by simp [I64, zeroRec], Nat.zero_le _⟩
theorem zeroRes_ok : ResOk zeroRes := ⟨by simp [I64, zeroRes], Nat.zero_le _⟩
theorem MapOk.do {m : MapM} (h : MapOk m) {o : Op4} (ho : o.val.size ≤ maxLen) : MapOk (doM m o).1 ∧ ResOk (doM m o).2.1 := by
  unfold doM
  split
  · exact ⟨h, (h o.key).1, (h o.key).2⟩
  · split
    · exact ⟨h, zeroRes_ok⟩
    · split
      · exact ⟨h, zeroRes_ok⟩
      · refine ⟨fun k => ?_, I64.wrap _, Nat.zero_le _⟩
        unfold upd
        dsimp only
        split
        · refine ⟨I64.wrap _, ?_⟩
          dsimp only
          split
          · exact Nat.zero_le _
          · exact ho
        · exact h k
theorem E39 : EqTy Try.prog 39 4 [.int .i64, .bool, .str] := ⟨by kernel_rfl, by decide, by kernel_rfl, by kernel_rfl, by kernel_rfl, by kernel_rfl⟩
theorem fitVV_res {r : Res3} (h : ResOk r) : FitVV [.int .i64, .bool, .str] (encRes r) :=
  .cons ⟨rfl, by obtain ⟨h1, h2⟩ := h.1; simp only [Lit.wf, Bool.and_eq_true, decide_eq_true_eq]; exact ⟨h1, h2⟩⟩ (.cons trivial (.cons h.2 .nil))
theorem encRes_inj {r s : Res3} : encRes r = encRes s ↔ r = s := by
  cases r; cases s; simp [encRes]
theorem Rep.ren {es : List (VV × VV)} {m : MapM} (h : Rep es m) (θ : Nat → Nat) : (VObj.map es).ren θ = .map es := by
  show VObj.map (es.map fun e => _) = _
  congr 1
  conv => rhs; rw [← List.map_id es]
  refine List.map_congr_left fun e he => ?_
  obtain ⟨s, hs⟩ := h.str e he
  have := h.val s e.2 (by rw [← hs]; exact he)
  rw [hs, this]
  have e2 : e = (.str s, .agg (encRec (m s))) := by rw [← hs, ← this]
  rw [e2]
  simp [Go.VM.ren, encRec, renL]
end Go.Proofs.Ytfphhdcpjoajbaa
