/- What the single operations do, over virtual values: one rule an operation. -/
import Derived.Test.YtfphhdcpjoajbaaV4
namespace Go.VM
open Go.RowKit
variable {P : Program} {T : List Ty} {o : Oper} {f : List VV} {h : Heap} {K : VV → Heap → Prop}

theorem FitV.of {σ : Sig} {n : Nat} {v : VV} {u : Value} (h : FitV σ n v u) (hv : v.isAny = false) : wf n v ∧ u = den σ v := by
  rcases h with rfl | h
  · simp [VV.isAny] at hv
  · exact h
theorem fit_den {σ : Sig} {n : Nat} {v : VV} (h : wf n v) : FitV σ n v (den σ v) := .inr ⟨h, rfl⟩
theorem fit_int {σ : Sig} {n : Nat} (k : IntKind) (i : Int) : FitV σ n (.int k i) (.int k i) := .inr ⟨by simp [wf, wf1, sc], by simp [den]⟩
theorem fit_bool {σ : Sig} {n : Nat} (b : Bool) : FitV σ n (.bool b) (.bool b) := .inr ⟨by simp [wf, wf1, sc], by simp [den]⟩
theorem fit_str {σ : Sig} {n : Nat} (b : ByteArray) : FitV σ n (.str b) (.string b) := .inr ⟨by simp [wf, wf1, sc], by simp [den]⟩

/-! moves -/
theorem sem_move {x : Operand} (ho : o.op = .move x ∨ o.op = .assign x) (hk : evK f x fun v => K v h) : SemOp P o f h K := by
  refine SemOp.value fun σ a w k hf => ?_
  obtain ⟨v, hv, hk⟩ := evK_ok k hf hk
  refine ⟨Pure.pure (a.eval x), ?_, Gives.pure k hv hk⟩
  rcases ho with ho | ho <;> simp [execOp, ho]
theorem sem_pick {c x y : Operand} (ho : o.op = .pick c x y) (hk : evK f c fun v => match v with
    | .bool b => (match b with
      | true => evK f x fun v => K v h
      | false => evK f y fun v => K v h)
    | _ => False) : SemOp P o f h K := by
  refine SemOp.value fun σ a w k hf => ?_
  obtain ⟨v, hv, hk⟩ := evK_ok k hf hk
  refine ⟨(do Pure.pure (if ← asBool (a.eval c) then a.eval x else a.eval y)), by simp [execOp, ho], ?_⟩
  split at hk
  · obtain ⟨_, he⟩ := hv.of rfl
    simp only [den] at he
    rw [he]
    split at hk
    · obtain ⟨u, hu, hk⟩ := evK_ok k hf hk
      exact Gives.same k (by simp [asBool]) hu hk
    · obtain ⟨u, hu, hk⟩ := evK_ok k hf hk
      exact Gives.same k (by simp [asBool]) hu hk
  · exact hk.elim

/-! new blocks -/
def newK (h : Heap) (o : VObj) (K : Nat → Heap → Prop) : Prop := K h.n ⟨h.n + 1, (h.n, o) :: h.es⟩
theorem okObj_new {σ : Sig} {h : Heap} {w : World} (k : Ok σ h w) {cs : List VV} {t : TypeId} {c : Array Value} (hs : scL h.n cs) (hc : c.toList = denL σ cs) :
    OkObj (σ.put h.n (some w.heap.size)) (w.alloc (.cells c t)) h.n (.row cs t cs.length) := by
  have e : (σ.put h.n (some w.heap.size)) h.n = some w.heap.size := by simp [Sig.put]
  have ha : ∀ i, i < h.n → (σ.put h.n (some w.heap.size)) i = σ i := fun i hi => by simp [Sig.put]; intro e; omega
  simp only [OkObj, e]
  refine ⟨c, (0, 0), [], heap_alloc_new _ _, ?_, ?_, fun i _ h => by simp at h⟩
  · rw [den_agree_scL ha cs hs, hc]; simp
  · rw [← Array.length_toList, hc, denL_eq, List.length_map]
theorem gives_newRow {σ : Sig} {w : World} (k : Ok σ h w) {cs : List VV} {t : TypeId} {c : Array Value} (hs : scL h.n cs) (hc : c.toList = denL σ cs) {s : Sem Value} {u : Nat → Value} {v : VV}
    (hr : s.run P w = .ok (u w.heap.size) (w.alloc (.cells c t))) (hv : den (σ.put h.n (some w.heap.size)) v = u w.heap.size) (hw : wf (h.n + 1) v)
    (hk : K v ⟨h.n + 1, (h.n, .row cs t cs.length) :: h.es⟩) : Gives P σ h w s K :=
  ⟨_, _, _, v, _, hr, .inr ⟨hw, hv.symm⟩, Step.alloc k (.row cs t cs.length) _ (by simp only [VObj.wf]; exact scL_mono (Nat.le_succ _) _ hs) (okObj_new k hs hc), hk⟩
theorem zero_den {y : Ty} {t : TypeId} {i : TypeInfo} {d : TypeDesc} {z : Value} (ty : TyIs P t y i d z) {σ : Sig} (h0 : σ 0 = none) : z.cells.toList = denL σ y.zero := (ty.den σ h0).symm
theorem run_zeroValue {y : Ty} {t : TypeId} {i : TypeInfo} {d : TypeDesc} {z : Value} (ty : TyIs P t y i d z) (w : World) : (zeroValue t).run P w = .ok z w := by
  simp [zeroValue, typeInfo, ty.info, ty.zero]
theorem run_newRow' (t : TypeId) (c : Array Value) (w : World) : (newRow t c).run P w = .ok ⟨w.heap.size, 0, none⟩ (w.alloc (.cells c t)) := rfl
theorem sem_alloc {t : TypeId} (hT : TOk P T) (ho : o.op = .alloc t) (hk : tyK T t fun y => goodK y (K (.ptr h.n 0) ⟨h.n + 1, (h.n, .row y.zero t y.zero.length) :: h.es⟩)) : SemOp P o f h K := by
  refine SemOp.value fun σ a w k hf => ?_
  obtain ⟨y, hy, hk⟩ := tyK_ok hk
  obtain ⟨hg, hk⟩ := goodK_ok hk
  obtain ⟨i, d, z, ty⟩ := hT.get hy hg
  refine ⟨_, by unfold execOp; rw [ho], ?_⟩
  refine gives_newRow k (c := z.cells) (t := t) (u := fun n => .pointer (some ⟨n, 0, none⟩)) (ty.sc _ k.pos) (zero_den ty k.nil) ?_ (by simp [den, Sig.put]) (by simp [wf, wf1, sc]) hk
  simp [Instr.alloc, Sem.run_bind, run_zeroValue ty, newVar, run_newRow']
theorem sem_box {t : TypeId} {x : Operand} (ho : o.op = .box t x) (hk : evK f x fun v => cellsK v fun cs => K (.ptr h.n 0) ⟨h.n + 1, (h.n, .row cs t cs.length) :: h.es⟩) : SemOp P o f h K := by
  refine SemOp.value fun σ a w k hf => ?_
  obtain ⟨v, hv, hk⟩ := evK_ok k hf hk
  obtain ⟨cs, hs, hc, hk⟩ := cellsK_ok hv hk
  refine ⟨_, by unfold execOp; rw [ho], ?_⟩
  refine gives_newRow k (c := (a.eval x).cells) (t := t) (u := fun n => .pointer (some ⟨n, 0, none⟩)) hs hc ?_ (by simp [den, Sig.put]) (by simp [wf, wf1, sc]) hk
  simp [Instr.box, newVar, run_newRow']

/-! loads and stores -/
theorem sem_load {t : TypeId} {x : Operand} (hT : TOk P T) (ho : o.op = .load t x) (hk : evK f x fun v => match v with
    | .ptr b off => loadK T h t b off fun v => K v h
    | _ => False) : SemOp P o f h K := by
  refine SemOp.value fun σ a w k hf => ?_
  obtain ⟨v, hv, hk⟩ := evK_ok k hf hk
  refine ⟨_, by unfold execOp; rw [ho], ?_⟩
  split at hk
  · obtain ⟨_, he⟩ := hv.of rfl
    obtain ⟨d, u, hd, hr, hw, hk⟩ := loadK_ok hT k hk
    simp only [den, hd, Option.map_some] at he
    rw [he]
    exact Gives.same k (by simp [Instr.loadAt, Instr.sureAddr, hr]) (fit_den hw) hk
  · exact hk.elim
theorem sem_store {t : TypeId} {x y : Operand} (hT : TOk P T) (ho : o.op = .store t x y) (hk : evK f x fun v => match v with
    | .ptr b off => evK f y fun u => cellsK u fun us => storeK T h t b off us fun h => K (.tup []) h
    | _ => False) : SemOp P o f h K := by
  refine SemOp.unit fun σ a w k hf => ?_
  obtain ⟨v, hv, hk⟩ := evK_ok k hf hk
  refine ⟨_, by unfold execOp; rw [ho], ?_⟩
  split at hk
  · obtain ⟨_, he⟩ := hv.of rfl
    obtain ⟨u, hu, hk⟩ := evK_ok k hf hk
    obtain ⟨us, hs, hc, hk⟩ := cellsK_ok hu hk
    obtain ⟨d, h', w', hd, hr, hst, hk⟩ := storeK_ok hT k hs hk hc
    simp only [den, hd, Option.map_some] at he
    rw [he]
    exact ⟨σ, h', w', by simp [Instr.storeAt, Instr.sureAddr, hr], hst, hk⟩
  · exact hk.elim
theorem sem_nilCheck {x : Operand} (ho : o.op = .nilCheck x) (hk : evK f x fun v => match v with
    | .ptr b off => findK h.es b fun o => liveK o (K (.ptr b off) h)
    | .fn g cap => K (.fn g cap) h
    | _ => False) : SemOp P o f h K := by
  refine SemOp.value fun σ a w k hf => ?_
  obtain ⟨v, hv, hk⟩ := evK_ok k hf hk
  split at hk
  · obtain ⟨hw, he⟩ := hv.of rfl
    obtain ⟨o', ho', hk⟩ := findK_ok hk
    obtain ⟨⟨d, hd⟩, hk⟩ := liveK_ok (k.obj _ ho').2.2 hk
    refine ⟨Pure.pure (a.eval x), ?_, Gives.pure k hv hk⟩
    simp only [den, hd, Option.map_some] at he
    simp [execOp, ho, he]
  · obtain ⟨hw, he⟩ := hv.of rfl
    refine ⟨Pure.pure (a.eval x), ?_, Gives.pure k hv hk⟩
    simp only [den] at he
    simp [execOp, ho, he]
  · exact hk.elim

/-! addresses -/
def nthK {α : Type} : List α → Nat → (α → Prop) → Prop
  | [], _, _ => False
  | x :: _, 0, K => K x
  | _ :: l, n + 1, K => nthK l n K
theorem nthK_ok {α : Type} : ∀ {l : List α} {i : Nat} {K : α → Prop}, nthK l i K → ∃ v, l[i]? = some v ∧ K v
  | [], _, _, h => h.elim
  | v :: _, 0, _, h => ⟨v, rfl, h⟩
  | _ :: f, n + 1, K, h => by simpa using nthK_ok (l := f) (i := n) (K := K) h
def structK (T : List Ty) (s : TypeId) (i : Nat) (K : Nat → Nat → TypeId → Prop) : Prop :=
  tyK T s fun y => match y.kind with
    | .struct fs => nthK fs i fun ot => K ot.1 ot.2.1 ot.2.2
    | _ => False
theorem structK_ok {s : TypeId} {i : Nat} {K : Nat → Nat → TypeId → Prop} (hT : TOk P T) (hk : structK T s i K) :
    ∃ (fs : Array Field) (fd : Field) (ti : TypeInfo), P.underlying s = some (.struct fs) ∧ fs[i]? = some fd ∧ P.info? fd.type = some ti ∧ K fd.offset ti.size fd.type := by
  obtain ⟨y, hy, hk⟩ := tyK_ok hk
  split at hk
  · rename_i fs hfs
    obtain ⟨ot, hot, hk⟩ := nthK_ok hk
    obtain ⟨i', d', z', ty⟩ := hT.get hy (by rw [hfs]; rfl)
    have e := ty.kind
    rw [hfs] at e
    obtain ⟨fields, rfl, hin, rfl⟩ := tk_struct e
    rw [List.getElem?_map] at hot
    cases hfd : fields.toList[i]? with
    | none => rw [hfd] at hot; simp at hot
    | some fd =>
      rw [hfd] at hot
      simp at hot
      subst hot
      obtain ⟨ti, hti⟩ := hin fd (by have := List.mem_of_getElem? hfd; simpa using this)
      refine ⟨fields, fd, ti, ty.under, by rw [← Array.getElem?_toList]; exact hfd, hti, ?_⟩
      simpa [hti] using hk
  · exact hk.elim
theorem sem_fieldAddr {s : TypeId} {x : Operand} {i : Nat} (hT : TOk P T) (ho : o.op = .fieldAddr s x i) (hk : evK f x fun v => match v with
    | .ptr b off => structK T s i fun fo sz _ => (match sz with
      | 0 => False
      | _ + 1 => findK h.es b fun o => liveK o (K (.ptr b (off + fo)) h))
    | _ => False) : SemOp P o f h K := by
  refine SemOp.value fun σ a w k hf => ?_
  obtain ⟨v, hv, hk⟩ := evK_ok k hf hk
  refine ⟨_, by unfold execOp; rw [ho], ?_⟩
  split at hk
  · rename_i b off
    obtain ⟨hw, he⟩ := hv.of rfl
    obtain ⟨fs, fd, ti, h1, h2, h3, hk⟩ := structK_ok hT hk
    split at hk
    · exact hk.elim
    · rename_i n hn
      obtain ⟨o', ho', hk⟩ := findK_ok hk
      obtain ⟨⟨d, hd⟩, hk⟩ := liveK_ok (k.obj _ ho').2.2 hk
      simp only [den, hd, Option.map_some] at he
      rw [he]
      refine Gives.same k (u := .pointer (some ⟨d, off + fd.offset, none⟩)) ?_ (.inr ⟨by simpa [wf, wf1, sc] using hw, by simp [den, hd]⟩) hk
      have hnz : ¬ ti.size = 0 := by rw [hn]; simp
      unfold Instr.fieldAt
      rw [Sem.run_bind, run_underlying h1, Result.andThen_ok]
      simp [h2, Instr.sureAddr, fieldPlace, sizeOf, typeInfo, h3, hnz, Addr.add_mid]
  · exact hk.elim
/-- where the elements of a slice's type or an array's lie -/
def elemK (T : List Ty) (t : TypeId) (K : TK → Ty → Prop) : Prop :=
  tyK T t fun y => match y.kind with
    | .slice e => tyK T e fun z => goodK z (K (.slice e) z)
    | .arr n e => tyK T e fun z => goodK z (K (.arr n e) z)
    | _ => False
theorem elemK_ok {t : TypeId} {K : TK → Ty → Prop} (hT : TOk P T) (hk : elemK T t K) :
    ∃ (k : TK) (z : Ty), K k z ∧ ((∃ e ti d zv, k = .slice e ∧ P.underlying t = some (.slice e) ∧ TyIs P e z ti d zv) ∨ (∃ n e ti d zv, k = .arr n e ∧ P.underlying t = some (.array n e) ∧ TyIs P e z ti d zv)) := by
  obtain ⟨y, hy, hk⟩ := tyK_ok hk
  split at hk
  · rename_i e he
    obtain ⟨z, hz, hk⟩ := tyK_ok hk
    obtain ⟨hg, hk⟩ := goodK_ok hk
    obtain ⟨ti, d, zv, hty⟩ := hT.get hz hg
    obtain ⟨i', d', z', ty⟩ := hT.get hy (by rw [he]; rfl)
    have e1 := ty.kind
    rw [he] at e1
    obtain rfl := tk_slice e1
    exact ⟨_, z, hk, .inl ⟨_, ti, d, zv, rfl, ty.under, hty⟩⟩
  · rename_i n e he
    obtain ⟨z, hz, hk⟩ := tyK_ok hk
    obtain ⟨hg, hk⟩ := goodK_ok hk
    obtain ⟨ti, d, zv, hty⟩ := hT.get hz hg
    obtain ⟨i', d', z', ty⟩ := hT.get hy (by rw [he]; rfl)
    have e1 := ty.kind
    rw [he] at e1
    obtain rfl := tk_arr e1
    exact ⟨_, z, hk, .inr ⟨_, _, ti, d, zv, rfl, ty.under, hty⟩⟩
  · exact hk.elim
theorem sem_indexAddr {t : TypeId} {x y : Operand} (hT : TOk P T) (ho : o.op = .indexAddr t x y) (hk : evK f x fun v => evK f y fun i => elemK T t fun kd z => match i, kd, v with
    | .int _ i, .slice _, .sl b off n _ => (0 ≤ i ∧ i < n) ∧ findK h.es b fun o => liveK o (K (.ptr b (off + i.toNat * z.size)) h)
    | .int _ i, .arr n _, .ptr b off => (0 ≤ i ∧ i < n) ∧ findK h.es b fun o => liveK o (K (.ptr b (off + i.toNat * z.size)) h)
    | _, _, _ => False) : SemOp P o f h K := by
  refine SemOp.value fun σ a w k hf => ?_
  obtain ⟨v, hv, hk⟩ := evK_ok k hf hk
  obtain ⟨i, hi, hk⟩ := evK_ok k hf hk
  obtain ⟨kd, z, hk, hkd⟩ := elemK_ok hT hk
  refine ⟨_, by unfold execOp; rw [ho], ?_⟩
  split at hk
  · rename_i ik i e0 b off n c _ _
    obtain ⟨hw, he⟩ := hv.of rfl
    obtain ⟨_, hie⟩ := hi.of rfl
    obtain ⟨hb, hk⟩ := hk
    obtain ⟨o', ho', hk⟩ := findK_ok hk
    obtain ⟨⟨d, hd⟩, hk⟩ := liveK_ok (k.obj _ ho').2.2 hk
    simp only [den, hd, Option.map_some] at he hie
    rw [he, hie]
    rcases hkd with ⟨e, ti, dd, zv, hke, hu, ty⟩ | ⟨n, e, ti, dd, zv, hke, hu, ty⟩
    · refine Gives.same k (u := .pointer (some ⟨d, off + i.toNat * z.size, none⟩)) ?_ (.inr ⟨by simpa [wf, wf1, sc] using hw, by simp [den, hd]⟩) hk
      unfold Instr.indexAt
      simp [asIntOf, Sem.run_bind, run_underlying hu, hb, run_sizeOf_of ty.info, ty.size, Addr.add_mid]
    · cases hke
  · rename_i ik i n e' b off _ _
    obtain ⟨hw, he⟩ := hv.of rfl
    obtain ⟨_, hie⟩ := hi.of rfl
    obtain ⟨hb, hk⟩ := hk
    obtain ⟨o', ho', hk⟩ := findK_ok hk
    obtain ⟨⟨d, hd⟩, hk⟩ := liveK_ok (k.obj _ ho').2.2 hk
    simp only [den, hd, Option.map_some] at he hie
    rw [he, hie]
    rcases hkd with ⟨e, ti, dd, zv, hke, hu, ty⟩ | ⟨n, e, ti, dd, zv, hke, hu, ty⟩
    · cases hke
    · cases hke
      refine Gives.same k (u := .pointer (some ⟨d, off + i.toNat * z.size, none⟩)) ?_ (.inr ⟨by simpa [wf, wf1, sc] using hw, by simp [den, hd]⟩) hk
      unfold Instr.indexAt
      simp [asIntOf, Sem.run_bind, run_underlying hu, hb, run_sizeOf_of ty.info, ty.size, Addr.add_mid, Instr.sureAddr]
  · exact hk.elim

/-! functions, tuples -/
theorem sem_makeFunc {g : FuncId} {caps : Array Operand} (ho : o.op = .makeFunc (.func g) #[] caps) (hk : evsK f caps.toList fun vs => scL h.n vs ∧ K (.fn g vs) h) : SemOp P o f h K := by
  refine SemOp.value fun σ a w k hf => ?_
  obtain ⟨vs, hl, hvs, hs, hk⟩ := evsK_ok k hf hk
  refine ⟨_, by unfold execOp; rw [ho], ?_⟩
  refine Gives.same k (u := den σ (.fn g vs)) ?_ (fit_den (by simpa [wf, wf1, sc] using hs)) hk
  have : caps.map a.eval = (denL σ vs).toArray := by
    apply Array.ext'
    rw [Array.toList_map, List.toList_toArray, denL_eq]
    apply List.ext_getElem?
    intro i
    rw [List.getElem?_map, List.getElem?_map]
    cases hc : caps.toList[i]? with
    | none =>
      have : vs[i]? = none := by rw [List.getElem?_eq_none_iff] at hc ⊢; omega
      rw [this]; rfl
    | some x =>
      have hi := (List.getElem?_eq_some_iff.1 hc).1
      have hv : vs[i]? = some (vs[i]'(by omega)) := by simp
      rw [hv]
      rcases hvs i _ x hv hc with e | ⟨_, e⟩
      · have := (scL_iff _ _).1 hs _ (List.mem_of_getElem? hv)
        rw [e] at this; simp [sc] at this
      · simp [e]
  simp [Instr.makeFunc, this, den]
theorem sem_extract {x : Operand} {i : Nat} (ho : o.op = .extract x i) (hk : evK f x fun v => match v with
    | .tup vs => getF vs i fun v => K v h
    | _ => False) : SemOp P o f h K := by
  refine SemOp.value fun σ a w k hf => ?_
  obtain ⟨v, hv, hk⟩ := evK_ok k hf hk
  refine ⟨_, by unfold execOp; rw [ho], ?_⟩
  split at hk
  · obtain ⟨hw, he⟩ := hv.of rfl
    obtain ⟨u, hu, hk⟩ := getF_ok hk
    simp only [den] at he
    rw [he]
    refine Gives.same k (u := den σ u) (by simp [Instr.extract, denL_eq, hu]) (fit_den ?_) hk
    simp only [wf] at hw
    have := hw u (List.mem_of_getElem? hu)
    cases u <;> simp [wf1, sc] at this <;> simp only [wf, wf1, sc] <;> first | exact this | trivial
  · exact hk.elim
end Go.VM
