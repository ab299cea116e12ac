/- Maps with strings for keys; rows of wide elements; small helps. -/
import Derived.Test.YtfphhdcpjoajbaaV14
import Derived.MapKept
namespace Go.VM
open Go.RowKit Go.MapKept
variable {P : Program} {T : List Ty} {o : Oper} {f : List VV} {h : Heap} {K : VV → Heap → Prop}

theorem run_checkKey_str {kt : TypeId} (hd : P.underlying kt = some .string) (e : Bool) (n : Nat) (s : ByteArray) (w : World) : (Instr.checkKey e (n + 1) kt (.string s)).run P w = .ok () w := by
  unfold Instr.checkKey
  rw [Sem.run_bind, run_underlying hd, Result.andThen_ok]
  simp
def AllStr (es : List (VV × VV)) : Prop := ∀ e ∈ es, ∃ s, e.1 = .str s
theorem den_str_inj {σ : Sig} {v : VV} {s : ByteArray} (hv : ∃ t, v = .str t) (h : den σ v = .string s) : v = .str s := by
  obtain ⟨t, rfl⟩ := hv
  simp [den] at h
  rw [h]
theorem findStr {kt : TypeId} (hd : P.underlying kt = some .string) {σ : Sig} {ents : Array MapEntry} {es : List (VV × VV)} (he : ents.toList.map (fun e => (e.key, e.val)) = es.map (fun e => (den σ e.1, den σ e.2))) (hs : AllStr es) (s : ByteArray) (w : World) :
    ((Instr.findKey kt (.string s) ents.toList).run P w = .ok none w ∧ ∀ e ∈ es, e.1 ≠ .str s) ∨
    ∃ (j : Nat) (v : VV) (e : MapEntry), (Instr.findKey kt (.string s) ents.toList).run P w = .ok (some (j, den σ v)) w ∧ es[j]? = some (.str s, v) ∧ ents[j]? = some e ∧ e.key = .string s := by
  have hkeys : ∀ x ∈ ents.toList, IsKey .string x.key := by
    intro x hx
    have : (x.key, x.val) ∈ es.map (fun e => (den σ e.1, den σ e.2)) := by rw [← he]; exact List.mem_map.2 ⟨x, hx, rfl⟩
    obtain ⟨e, hem, e1⟩ := List.mem_map.1 this
    obtain ⟨t, ht⟩ := hs e hem
    simp only [Prod.mk.injEq] at e1
    rw [← e1.1, ht]
    simp [den, IsKey]
  rcases findNow_spec (d := .string) (k := .string s) (by simp [IsKey]) ents.toList 0 hkeys with ⟨h1, h2⟩ | ⟨j, e, h1, h2, h3⟩
  · refine .inl ⟨run_findKey hd h1, fun e hem e1 => ?_⟩
    have : (den σ e.1, den σ e.2) ∈ ents.toList.map (fun e => (e.key, e.val)) := by rw [he]; exact List.mem_map.2 ⟨e, hem, rfl⟩
    obtain ⟨x, hx, e2⟩ := List.mem_map.1 this
    simp only [Prod.mk.injEq] at e2
    exact h2 x hx (by rw [e2.1, e1]; simp [den])
  · have hj : (ents.toList.map (fun e => (e.key, e.val)))[j]? = some (e.key, e.val) := by rw [List.getElem?_map, h2]; rfl
    rw [he, List.getElem?_map] at hj
    cases hx : es[j]? with
    | none => rw [hx] at hj; simp at hj
    | some x =>
      rw [hx] at hj
      simp at hj
      have := den_str_inj (σ := σ) (hs x (List.mem_of_getElem? hx)) (by rw [hj.1, h3])
      refine .inr ⟨j, x.2, e, ?_, ?_, by rw [← Array.getElem?_toList]; exact h2, h3⟩
      · rw [run_findKey hd h1, ← hj.2]; simp
      · rw [← this]; exact hx
theorem wf_of_wf1 {n : Nat} {v : VV} (h : wf1 n v) : wf n v := by cases v <;> simp only [wf] <;> first | exact h | (simp [wf1, sc] at h)
def oneV (v : VV) (K : Prop) : Prop := match v with
  | .tup _ | .any => False
  | _ => K
theorem oneV_ok {σ : Sig} {n : Nat} {v : VV} {u : Value} (hv : FitV σ n v u) {K : Prop} (h : oneV v K) : (wf1 n v ∧ u = den σ v) ∧ K := by
  rcases hv with rfl | ⟨hw, rfl⟩
  · exact h.elim
  · cases v <;> simp only [oneV] at h <;> first | exact h.elim | exact ⟨⟨hw, rfl⟩, h⟩
/-- a map's part of the heap -/
def mapObjK (h : Heap) (b : Nat) (K : List (VV × VV) → Prop) : Prop := findK h.es b fun o => match o with
  | .map es => K es
  | _ => False
def asMapK (m : VV) (K : Nat → Prop) : Prop := match m with
  | .map b => K b
  | _ => False
def asStrK (m : VV) (K : ByteArray → Prop) : Prop := match m with
  | .str s => K s
  | _ => False
theorem asMapK_ok {m : VV} {K : Nat → Prop} (h : asMapK m K) : ∃ b, m = .map b ∧ K b := by cases m <;> simp only [asMapK] at h <;> first | exact h.elim | exact ⟨_, rfl, h⟩
theorem asStrK_ok {m : VV} {K : ByteArray → Prop} (h : asStrK m K) : ∃ b, m = .str b ∧ K b := by cases m <;> simp only [asStrK] at h <;> first | exact h.elim | exact ⟨_, rfl, h⟩
theorem mapObjK_ok {h : Heap} {b : Nat} {K : List (VV × VV) → Prop} (hk : mapObjK h b K) : ∃ es, (b, .map es) ∈ h.es ∧ K es := by
  obtain ⟨o, ho, hk⟩ := findK_ok hk
  cases o <;> first | exact hk.elim | exact ⟨_, ho, hk⟩
def mapTyK (T : List Ty) (t : TypeId) (K : TypeId → TypeId → Ty → Prop) : Prop :=
  tyK T t fun y => match y.kind with
    | .map kt et => tyK T et fun ey => goodK ey (K kt et ey)
    | _ => False
theorem mapTyK_ok (hT : TOk P T) {t : TypeId} {K : TypeId → TypeId → Ty → Prop} (hk : mapTyK T t K) : ∃ kt et ey i d z, P.underlying t = some (.map kt et) ∧ T[et]? = some ey ∧ ey.kind.good = true ∧ TyIs P et ey i d z ∧ K kt et ey := by
  obtain ⟨ty, hty, hk⟩ := tyK_ok hk
  split at hk
  · rename_i kt et hkd
    obtain ⟨d, hd, hdk⟩ := under_kind hT hty (by rw [hkd]; rfl)
    rw [hkd] at hdk
    obtain rfl := tk_map hdk
    obtain ⟨ey, hey, hk⟩ := tyK_ok hk
    obtain ⟨hg, hk⟩ := goodK_ok hk
    obtain ⟨i, de, z, tye⟩ := hT.get hey hg
    exact ⟨kt, et, ey, i, de, z, hd, hey, hg, tye, hk⟩
  · exact hk.elim
def isStrK (T : List Ty) (t : TypeId) (K : Prop) : Prop := tyK T t fun y => match y.kind with
  | .str => K
  | _ => False
theorem isStrK_ok (hT : TOk P T) {t : TypeId} {K : Prop} (hk : isStrK T t K) : P.underlying t = some .string ∧ K := by
  obtain ⟨ty, hty, hk⟩ := tyK_ok hk
  split at hk
  · rename_i hkk
    obtain ⟨dk, hdk', hdkk⟩ := under_kind hT hty (by rw [hkk]; rfl)
    rw [hkk] at hdkk
    obtain rfl := tk_str hdkk
    exact ⟨hdk', hk⟩
  · exact hk.elim
def lookK (T : List Ty) (t : TypeId) (h : Heap) (m key : VV) (ok : Bool) (K : VV → Prop) : Prop :=
  mapTyK T t fun kt _ ey => isStrK T kt (asMapK m fun b => asStrK key fun s => mapObjK h b fun es => AllStr es ∧
    ((∀ v, (.str s, v) ∈ es → K (if ok then .tup [v, .bool true] else v)) ∧ ((∀ e ∈ es, e.1 ≠ .str s) → K (if ok then .tup [zeroVV ey, .bool false] else zeroVV ey))))
theorem zeroVV_den {y : Ty} {t : TypeId} {i : TypeInfo} {d : TypeDesc} {z : Value} (ty : TyIs P t y i d z) {σ : Sig} (h0 : σ 0 = none) (hsz : y.kind.isAgg = false → y.size = 1) : den σ (zeroVV y) = z ∧ ∀ n, 1 ≤ n → wf1 n (zeroVV y) := by
  have hz := ty.den σ h0
  have ha := ty.agg
  unfold zeroVV
  cases hA : y.kind.isAgg with
  | true =>
    rw [hA] at ha
    cases z <;> simp [Value.isAgg] at ha
    refine ⟨by simp only [den, hz, Value.cells, Array.toArray_toList], fun n hn => by simp only [wf1]; exact ty.sc n hn⟩
  | false =>
    have hl := ty.len
    rw [hsz hA] at hl
    rw [hA] at ha
    cases hzz : y.zero with
    | nil => rw [hzz] at hl; simp at hl
    | cons v l =>
      cases l with
      | cons _ _ => rw [hzz] at hl; simp at hl
      | nil =>
        rw [hzz] at hz
        have hcz : z.cells = #[z] := by cases z <;> simp [Value.isAgg] at ha <;> rfl
        rw [hcz] at hz
        simp [denL] at hz
        refine ⟨by simpa using hz, fun n hn => ?_⟩
        have := ty.sc n hn
        rw [hzz] at this
        simp only [scL] at this
        simp only [List.headD_cons]
        cases v <;> simp only [wf1] <;> first | exact this.1 | (simp [sc] at this)
theorem sem_lookup {t : TypeId} {x y : Operand} {ok : Bool} (hT : TOk P T) (ho : o.op = .lookup t x y ok) (hsz : ∀ (t : TypeId) y, T[t]? = some y → y.kind.isAgg = false → y.kind.good = true → y.size = 1)
    (hk : evK f x fun m => evK f y fun key => lookK T t h m key ok fun v => K v h) : SemOp P o f h K := by
  refine SemOp.value fun σ a w k hf => ?_
  obtain ⟨m, hm, k1⟩ := evK_ok k hf hk
  clear hk
  obtain ⟨key, hkey, k2⟩ := evK_ok k hf k1
  clear k1
  refine ⟨_, by unfold execOp; rw [ho], ?_⟩
  obtain ⟨kt, et, ey, i, de, z, hd, hey, hg, tye, k2⟩ := mapTyK_ok hT k2
  obtain ⟨hdk', k2⟩ := isStrK_ok hT k2
  obtain ⟨b, rfl, k2⟩ := asMapK_ok k2
  obtain ⟨s, rfl, k2⟩ := asStrK_ok k2
  obtain ⟨es, hob, hs, kf, kn⟩ := mapObjK_ok k2
  obtain ⟨hw, em⟩ := hm.of rfl
  obtain ⟨_, ek⟩ := hkey.of rfl
  simp only [den] at em ek
  have hok := (k.obj _ hob).2.2
  have hwf := (k.obj _ hob).2.1
  simp only [OkObj] at hok
  split at hok
  case h_2 => exact hok.elim
  rename_i db hdb
  obtain ⟨ents, clock, e1, e2⟩ := hok
  rw [em, ek, hdb]
  obtain ⟨hz1, hz2⟩ := zeroVV_den tye k.nil (fun hA => hsz et ey hey hA hg)
  have hget : (getObj db).run P w = .ok (.map ents clock) w := by simp [getObj, Sem.run, e1]
  have hchk : (Instr.checkKey ents.isEmpty 10000 kt (.string s)).run P w = .ok () w := run_checkKey_str (P := P) hdk' ents.isEmpty 9999 s w
  rcases findStr hdk' e2 hs s w with ⟨h1, h2⟩ | ⟨j, v, e, h1, h2, _⟩
  · have hv := kn h2
    refine Gives.same k (u := if ok then .tuple #[z, .bool false] else z) ?_ ?_ hv
    · unfold Instr.lookup
      rw [Sem.run_bind, run_underlying hd, Result.andThen_ok]
      simp only []
      rw [Sem.run_bind, hget, Result.andThen_ok]
      simp only [Sem.run_bind, Sem.run_pure, Result.andThen_ok, hchk, h1, run_zeroValue tye]
    · cases ok with
      | true =>
        refine .inr ⟨?_, ?_⟩
        · simp only [if_true, wf]
          intro v hv
          simp at hv
          rcases hv with rfl | rfl
          · exact hz2 _ k.pos
          · simp [wf1, sc]
        · simp [den, denL, hz1]
      | false =>
        refine .inr ⟨?_, by simp [hz1]⟩
        have := hz2 _ k.pos
        simp only [Bool.false_eq_true, if_false]
        exact wf_of_wf1 this
  · have hmem := List.mem_of_getElem? h2
    have hv := kf v hmem
    have hwv := (hwf _ hmem).2
    refine Gives.same k (u := if ok then .tuple #[den σ v, .bool true] else den σ v) ?_ ?_ hv
    · unfold Instr.lookup
      rw [Sem.run_bind, run_underlying hd, Result.andThen_ok]
      simp only []
      rw [Sem.run_bind, hget, Result.andThen_ok]
      simp only [Sem.run_bind, Sem.run_pure, Result.andThen_ok, hchk, h1]
    · cases ok with
      | true =>
        refine .inr ⟨?_, ?_⟩
        · simp only [if_true, wf]
          intro v' hv'
          simp at hv'
          rcases hv' with rfl | rfl
          · exact hwv
          · simp [wf1, sc]
        · simp [den, denL]
      | false => exact .inr ⟨by simp only [Bool.false_eq_true, if_false]; exact wf_of_wf1 hwv, by simp⟩
/-- a map that was written -/
theorem Step.mapPut {σ : Sig} {w : World} (k : Ok σ h w) {l r : List (Nat × VObj)} {b : Nat} {es : List (VV × VV)} (he : h.es = l ++ (b, .map es) :: r) {d : Nat} (hd : σ b = some d) {ents' : Array MapEntry} {clock' : Nat} {es' : List (VV × VV)}
    (hs : ∀ e ∈ es', wf1 h.n e.1 ∧ wf1 h.n e.2) (hlt : d < w.heap.size) (hm : ents'.toList.map (fun e => (e.key, e.val)) = es'.map (fun e => (den σ e.1, den σ e.2))) :
    Step σ h w σ ⟨h.n, l ++ (b, .map es') :: r⟩ (w.putObj d (.map ents' clock')) := by
  have hmem : (b, VObj.map es) ∈ h.es := by rw [he]; simp
  have hsep := k.sep
  rw [he] at hsep
  have hsep' : ∀ e ∈ l ++ r, ∀ d', σ e.1 = some d' → d' ≠ d := by
    intro e hem d' hd' e1
    subst e1
    rcases List.mem_append.1 hem with hm | hm
    · have := (List.pairwise_append.1 hsep).2.2 e hm _ List.mem_cons_self d' hd' hd
      simp [VObj.owned] at this
    · have := (List.pairwise_cons.1 (List.pairwise_append.1 hsep).2.1).1 e hm d' hd hd'
      simp [VObj.owned] at this
  refine ⟨fun _ _ => rfl, Nat.le_refl _, ⟨k.nil, k.pos, ?_, ?_, ?_⟩, rfl, rfl, rfl, by simp [World.putObj], ?_, ?_⟩
  · intro e hem
    rcases List.mem_append.1 hem with hm' | hm'
    · have hm2 : e ∈ h.es := by rw [he]; simp [hm']
      obtain ⟨h1, h2, h3⟩ := k.obj e hm2
      exact ⟨h1, h2, h3.stay fun d' hd' => putObj_other _ _ _ _ (hsep' e (by simp [hm']) d' hd')⟩
    · rcases List.mem_cons.1 hm' with rfl | hm'
      · exact ⟨(k.obj _ hmem).1, hs, by simp only [OkObj, hd]; exact ⟨_, _, putObj_self _ _ _ hlt, hm⟩⟩
      · have hm2 : e ∈ h.es := by rw [he]; simp [hm']
        obtain ⟨h1, h2, h3⟩ := k.obj e hm2
        exact ⟨h1, h2, h3.stay fun d' hd' => putObj_other _ _ _ _ (hsep' e (by simp [hm']) d' hd')⟩
  · rw [List.pairwise_append, List.pairwise_cons] at hsep ⊢
    refine ⟨hsep.1, ⟨fun e hm d' h1 h2 => ?_, hsep.2.1.2⟩, fun e hm e' hm' => ?_⟩
    · have := hsep.2.1.1 e hm d' h1 h2; simp [VObj.owned] at this
    · rcases List.mem_cons.1 hm' with rfl | hm'
      · intro d' h1 h2
        have := hsep.2.2 e hm _ List.mem_cons_self d' h1 h2; simp [VObj.owned] at this
      · exact hsep.2.2 e hm e' (List.mem_cons_of_mem _ hm')
  · intro i hi d' hd'
    have := k.lt i hi d' hd'
    simpa [World.putObj] using this
  · intro b' _ hn
    refine putObj_other _ _ _ _ fun e => hn ⟨_, hmem, rfl, ?_⟩
    rw [e]; exact hd
  · rintro b' _ ⟨e, hem, ho, hd'⟩
    rcases List.mem_append.1 hem with hm | hm
    · exact ⟨e, by rw [he]; simp [hm], ho, hd'⟩
    · rcases List.mem_cons.1 hm with rfl | hm
      · exact ⟨_, hmem, rfl, hd'⟩
      · exact ⟨e, by rw [he]; simp [hm], ho, hd'⟩
def updMK (T : List Ty) (t : TypeId) (h : Heap) (m key val : VV) (K : Heap → Prop) : Prop :=
  mapTyK T t fun kt _ _ => isStrK T kt (asMapK m fun b => asStrK key fun s => oneV val (modK h.es b (fun o Ko => match o with
    | .map es => AllStr es ∧ ((∀ j v, es[j]? = some (.str s, v) → Ko (.map (es.set j (.str s, val)))) ∧ ((∀ e ∈ es, e.1 ≠ .str s) → Ko (.map (es ++ [(.str s, val)]))))
    | _ => False) fun es => K ⟨h.n, es⟩))
theorem sem_mapUpdate {t : TypeId} {x y z : Operand} (hT : TOk P T) (ho : o.op = .mapUpdate t x y z)
    (hk : evK f x fun m => evK f y fun key => evK f z fun val => updMK T t h m key val fun h => K (.tup []) h) : SemOp P o f h K := by
  refine SemOp.unit fun σ a w k hf => ?_
  obtain ⟨m, hm, k1⟩ := evK_ok k hf hk
  clear hk
  obtain ⟨key, hkey, k2⟩ := evK_ok k hf k1
  clear k1
  obtain ⟨val, hval, k3⟩ := evK_ok k hf k2
  clear k2
  refine ⟨_, by unfold execOp; rw [ho], ?_⟩
  obtain ⟨kt, et, ey, i, de, zz, hd, hey, hg, tye, k3⟩ := mapTyK_ok hT k3
  obtain ⟨hdk', k3⟩ := isStrK_ok hT k3
  obtain ⟨b, rfl, k3⟩ := asMapK_ok k3
  obtain ⟨s, rfl, k3⟩ := asStrK_ok k3
  obtain ⟨hv1, k3⟩ := oneV_ok hval k3
  obtain ⟨l, ob, r, he, k3⟩ := modK_ok k3
  cases ob with
  | row _ _ _ => exact k3.elim
  | ro _ _ => exact k3.elim
  | map es =>
    obtain ⟨hs, kf, kn⟩ := k3
    obtain ⟨hw, em⟩ := hm.of rfl
    obtain ⟨_, ek⟩ := hkey.of rfl
    simp only [den] at em ek
    have hmem : (b, VObj.map es) ∈ h.es := by rw [he]; simp
    have hok := (k.obj _ hmem).2.2
    have hwf := (k.obj _ hmem).2.1
    simp only [OkObj] at hok
    split at hok
    case h_2 => exact hok.elim
    rename_i db hdb
    obtain ⟨ents, clock, e1, e2⟩ := hok
    rw [em, ek, hdb]
    have hlt := (Array.getElem?_eq_some_iff.1 e1).1
    have hget : (getObj db).run P w = .ok (.map ents clock) w := by simp [getObj, Sem.run, e1]
    have hset : ∀ o, (setObj db o).run P w = .ok () (w.putObj db o) := fun o => by simp [setObj, Sem.run, e1, World.putObj]
    have hchk : (Instr.checkKey false 10000 kt (.string s)).run P w = .ok () w := run_checkKey_str (P := P) hdk' false 9999 s w
    have hkw : wf1 h.n (.str s) := by simp [wf1, sc]
    rcases findStr hdk' e2 hs s w with ⟨h1, h2⟩ | ⟨j, v, e, h1, h2, h3, h4⟩
    · refine ⟨σ, _, _, ?_, Step.mapPut k he hdb (ents' := ents.push { key := .string s, val := a.eval z, born := clock }) (clock' := clock + 1) (es' := es ++ [(.str s, val)]) ?_ hlt ?_, kn h2⟩
      · unfold Instr.mapUpdate
        rw [Sem.run_bind, run_underlying hd, Result.andThen_ok]
        simp only []
        rw [Sem.run_bind, hget, Result.andThen_ok]
        simp only []
        rw [Sem.run_bind, hchk, Result.andThen_ok, Sem.run_bind, h1, Result.andThen_ok]
        exact hset _
      · intro e hem
        rcases List.mem_append.1 hem with hem | hem
        · exact hwf e hem
        · simp at hem; subst hem; exact ⟨hkw, hv1.1⟩
      · rw [Array.toList_push, List.map_append, e2, List.map_append]; simp [den, hv1.2]
    · refine ⟨σ, _, _, ?_, Step.mapPut k he hdb (ents' := ents.modify j fun e => { e with key := .string s, val := a.eval z }) (clock' := clock) (es' := es.set j (.str s, val)) ?_ hlt ?_, kf j v h2⟩
      · unfold Instr.mapUpdate
        rw [Sem.run_bind, run_underlying hd, Result.andThen_ok]
        simp only []
        rw [Sem.run_bind, hget, Result.andThen_ok]
        simp only []
        rw [Sem.run_bind, hchk, Result.andThen_ok, Sem.run_bind, h1, Result.andThen_ok]
        simp only [h3, Option.map_some, Option.getD_some, h4]
        rw [Sem.run_bind]
        have hstay : (Instr.keyThatStays (.string s) (.string s)).run P w = .ok (.string s) w := by
          unfold Instr.keyThatStays
          have hss : Instr.sameBits 10000 (.string s) (.string s) = true := sameBits_self (d := .string) (by simp [IsKey]) _
          simp [hss]
        rw [hstay, Result.andThen_ok]
        exact hset _
      · intro e hem
        rcases List.mem_or_eq_of_mem_set hem with hem | rfl
        · exact hwf e hem
        · exact ⟨hkw, hv1.1⟩
      · apply List.ext_getElem?
        intro i
        have hi2 := congrArg (fun l => l[i]?) e2
        simp only [List.getElem?_map] at hi2
        rw [List.getElem?_map, Array.getElem?_toList, Array.getElem?_modify, List.getElem?_map, List.getElem?_set]
        by_cases hij : j = i
        · subst hij
          have hjl := (List.getElem?_eq_some_iff.1 h2).1
          simp [h3, hjl, den, hv1.2]
        · simp only [if_neg hij]
          rw [← Array.getElem?_toList]
          exact hi2

/-- nothing but a block -/
theorem sem_buildSlice0 {t e : TypeId} (hT : TOk P T) (ho : o.op = .buildSlice t 0 #[]) (hk : elemK T t fun kd z => match kd with
    | .slice e => K (.sl h.n 0 0 0) ⟨h.n + 1, (h.n, .row [] e 0) :: h.es⟩
    | _ => False) : SemOp P o f h K := by
  refine SemOp.value fun σ a w k hf => ?_
  obtain ⟨kd, z, hk, hkd⟩ := elemK_ok hT hk
  split at hk
  · rename_i e0
    rcases hkd with ⟨e, ti, dd, zv, hke, hu, ty⟩ | ⟨n', e, ti, dd, zv, hke, hu, ty⟩
    · cases hke
      refine ⟨_, by unfold execOp; rw [ho], ?_⟩
      refine gives_newRow k (cs := []) (c := #[]) (t := e0) (v := .sl h.n 0 0 0) (u := fun n => .slice (some ⟨n, 0, none⟩) 0 0) (by simp [scL]) (by simp [denL]) ?_ (by simp [den, Sig.put]) (by simp [wf, wf1, sc]) hk
      unfold Instr.buildSlice
      rw [Sem.run_bind, run_underlying hu, Result.andThen_ok]
      simp only []
      rw [Sem.run_bind, run_sizeOf_of ty.info, Result.andThen_ok]
      have e1 : Array.range 0 = #[] := Array.eq_empty_of_size_eq_zero (by simp)
      simp [Instr.fill, run_newRow', e1]
    · cases hke
  · exact hk.elim

/-! ### Rows of elements -/
section
variable {A : Type}
def rowsV (enc : A → List VV) (l : List A) : List VV := l.flatMap enc
theorem rowsV_nil (enc : A → List VV) : rowsV enc [] = [] := rfl
theorem rowsV_cons (enc : A → List VV) (x : A) (l : List A) : rowsV enc (x :: l) = enc x ++ rowsV enc l := rfl
theorem rowsV_append (enc : A → List VV) (l m : List A) : rowsV enc (l ++ m) = rowsV enc l ++ rowsV enc m := by simp [rowsV]
theorem rowsV_length {enc : A → List VV} {s : Nat} (he : ∀ x, (enc x).length = s) (l : List A) : (rowsV enc l).length = l.length * s := by
  induction l with
  | nil => simp [rowsV]
  | cons x l ih => rw [rowsV_cons, List.length_append, he, ih, List.length_cons, Nat.add_mul, Nat.one_mul, Nat.add_comm]
theorem rowsV_drop {enc : A → List VV} {s : Nat} (he : ∀ x, (enc x).length = s) : ∀ (l : List A) (i : Nat), (rowsV enc l).drop (i * s) = rowsV enc (l.drop i)
  | l, 0 => by simp
  | [], i + 1 => by simp [rowsV]
  | x :: l, i + 1 => by
    rw [rowsV_cons, Nat.add_mul, Nat.one_mul, Nat.add_comm, ← List.drop_drop]
    rw [show (enc x ++ rowsV enc l).drop s = rowsV enc l by rw [← he x, List.drop_left]]
    simpa using rowsV_drop he l i
theorem rowsV_take {enc : A → List VV} {s : Nat} (he : ∀ x, (enc x).length = s) : ∀ (l : List A) (i : Nat), (rowsV enc l).take (i * s) = rowsV enc (l.take i)
  | l, 0 => by simp [rowsV]
  | [], i + 1 => by simp [rowsV]
  | x :: l, i + 1 => by
    rw [rowsV_cons, Nat.add_mul, Nat.one_mul, Nat.add_comm, List.take_add]
    rw [show (enc x ++ rowsV enc l).take s = enc x by rw [← he x, List.take_left], show (enc x ++ rowsV enc l).drop s = rowsV enc l by rw [← he x, List.drop_left]]
    rw [rowsV_take he l i]; simp [rowsV]
theorem rowsV_at {enc : A → List VV} {s : Nat} (he : ∀ x, (enc x).length = s) {l : List A} {i : Nat} {x : A} (hx : l[i]? = some x) : ((rowsV enc l).drop (i * s)).take s = enc x := by
  rw [rowsV_drop he]
  have : l.drop i = x :: l.drop (i + 1) := by
    obtain ⟨h, rfl⟩ := List.getElem?_eq_some_iff.1 hx
    exact List.drop_eq_getElem_cons h
  rw [this, rowsV_cons, ← he x, List.take_left]
/-- a whole element -/
theorem takeC_rows {enc : A → List VV} {s : Nat} (he : ∀ x, (enc x).length = s) {l : List A} {i : Nat} {x : A} (hx : l[i]? = some x) {K : List VV → Prop} (hk : K (enc x)) {off : Nat} (ho : off = i * s) : takeC (rowsV enc l) off s K := by
  subst ho
  refine takeC_of ?_ (by rw [rowsV_at he hx]; exact hk)
  rw [rowsV_length he]
  have := (List.getElem?_eq_some_iff.1 hx).1
  calc i * s + s = (i + 1) * s := by rw [Nat.add_mul, Nat.one_mul]
    _ ≤ l.length * s := Nat.mul_le_mul_right _ this
/-- a cell of an element -/
theorem getF_rows {enc : A → List VV} {s : Nat} (he : ∀ x, (enc x).length = s) {l : List A} {i j : Nat} {x : A} (hx : l[i]? = some x) {v : VV} (hv : (enc x)[j]? = some v) {K : VV → Prop} (hk : K v) {off : Nat} (ho : off = i * s + j) : getF (rowsV enc l) off K := by
  subst ho
  refine getF_of ?_ hk
  have hj := (List.getElem?_eq_some_iff.1 hv).1
  rw [he] at hj
  have := rowsV_at he hx
  have h2 : (((rowsV enc l).drop (i * s)).take s)[j]? = some v := by rw [this]; exact hv
  rw [List.getElem?_take, if_pos hj, List.getElem?_drop] at h2
  exact h2
/-- an element put anew -/
theorem putC_rows {enc : A → List VV} {s : Nat} (he : ∀ x, (enc x).length = s) {l : List A} {i : Nat} (hi : i < l.length) {x : A} {us : List VV} (hu : us = enc x) {K : List VV → Prop} (hk : K (rowsV enc (l.set i x))) {off : Nat} (ho : off = i * s) : putC (rowsV enc l) off us K := by
  subst ho; subst hu
  refine putC_of ?_ ?_
  · rw [rowsV_length he, he]
    calc i * s + s = (i + 1) * s := by rw [Nat.add_mul, Nat.one_mul]
      _ ≤ l.length * s := Nat.mul_le_mul_right _ hi
  · rw [he, rowsV_take he, show i * s + s = (i + 1) * s by rw [Nat.add_mul, Nat.one_mul], rowsV_drop he]
    have : rowsV enc (l.take i ++ (x :: l.drop (i + 1))) = rowsV enc (l.set i x) := by
      rw [List.set_eq_take_append_cons_drop, if_pos hi]
    rw [rowsV_append, rowsV_cons] at this
    rw [List.append_assoc, this]
    exact hk
end
end Go.VM
