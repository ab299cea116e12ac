/- What the single operations do, over virtual values: moves, loads, stores, new blocks, addresses. -/
import Derived.Test.YtfphhdcpjoajbaaV3
import Derived.Deep.MidRow
namespace Go.VM
open Go.RowKit
variable {P : Program}

def NoQ : Exit → Act → World → Prop := fun _ _ _ => False
structure SemOp (P : Program) (o : Oper) (f : List VV) (h : Heap) (K : VV → Heap → Prop) : Prop where
  out : ∀ (σ : Sig) (a : Act) (w : World), Ok σ h w → FRel σ h.n f a.tmps →
    o.wp P a w (fun a' w' => ∃ σ' h' v u, a' = a.put o.dst u ∧ FitV σ' h'.n v u ∧ Step σ h w σ' h' w' ∧ K v h') NoQ
def Gives (P : Program) (σ : Sig) (h : Heap) (w : World) (s : Sem Value) (K : VV → Heap → Prop) : Prop :=
  ∃ σ' h' w' v u, s.run P w = .ok u w' ∧ FitV σ' h'.n v u ∧ Step σ h w σ' h' w' ∧ K v h'
theorem Gives.pure {σ : Sig} {h : Heap} {w : World} (k : Ok σ h w) {u : Value} {v : VV} (hv : FitV σ h.n v u) {K : VV → Heap → Prop} (hk : K v h) : Gives P σ h w (Pure.pure u) K :=
  ⟨σ, h, w, v, u, by simp, hv, Step.refl k, hk⟩
theorem Gives.same {σ : Sig} {h : Heap} {w : World} (k : Ok σ h w) {s : Sem Value} {u : Value} (hs : s.run P w = .ok u w) {v : VV} (hv : FitV σ h.n v u) {K : VV → Heap → Prop} (hk : K v h) : Gives P σ h w s K :=
  ⟨σ, h, w, v, u, hs, hv, Step.refl k, hk⟩
theorem SemOp.value {o : Oper} {f : List VV} {h : Heap} {K : VV → Heap → Prop}
    (H : ∀ (σ : Sig) (a : Act) (w : World), Ok σ h w → FRel σ h.n f a.tmps → ∃ s : Sem Value, execOp a.eval o = (do Pure.pure (Next.value (← s))) ∧ Gives P σ h w s K) : SemOp P o f h K := by
  refine ⟨fun σ a w k hf => ?_⟩
  obtain ⟨s, hs, σ', h', w', v, u, hr, hv, hst, hk⟩ := H σ a w k hf
  unfold Oper.wp
  rw [hs, Sem.run_bind, hr]
  simp only [Result.andThen_ok, Sem.run_pure, Oper.upon]
  exact ⟨σ', h', v, u, rfl, hv, hst, hk⟩
theorem SemOp.unit {o : Oper} {f : List VV} {h : Heap} {K : VV → Heap → Prop}
    (H : ∀ (σ : Sig) (a : Act) (w : World), Ok σ h w → FRel σ h.n f a.tmps → ∃ s : Sem Unit, execOp a.eval o = (do s; Pure.pure Next.skip) ∧ ∃ σ' h' w', s.run P w = .ok () w' ∧ Step σ h w σ' h' w' ∧ K (.tup []) h') : SemOp P o f h K := by
  refine ⟨fun σ a w k hf => ?_⟩
  obtain ⟨s, hs, σ', h', w', hr, hst, hk⟩ := H σ a w k hf
  unfold Oper.wp
  rw [hs, Sem.run_bind, hr]
  simp only [Result.andThen_ok, Sem.run_pure, Oper.upon]
  exact ⟨σ', h', .tup [], undef, rfl, .inr ⟨by simp [wf], by simp [den, denL, undef]⟩, hst, hk⟩

/-! ### Cells of objects -/
def VObj.at : VObj → Nat → Option VV
  | .row cs _ _, i => cs[i]?
  | .ro o cs, i => if o ≤ i then cs[i - o]? else none
  | .map _, _ => none
theorem OkObj.at {σ : Sig} {w : World} {b : Nat} {o : VObj} (h : OkObj σ w b o) {i : Nat} {v : VV} (hv : o.at i = some v) : ∃ d, σ b = some d ∧ w.cell? ⟨d, i, none⟩ = some (den σ v) := by
  cases o with
  | row cs t m =>
    simp only [VObj.at] at hv
    have hi := (List.getElem?_eq_some_iff.1 hv).1
    simp only [OkObj] at h
    split at h
    · rename_i d hd
      obtain ⟨c, fz, sp, h1, h2, h3, h4⟩ := h
      refine ⟨d, hd, ?_⟩
      rw [cell_of_row w d i c t fz h1, ← Array.getElem?_toList, h2, List.getElem?_append_left (by simpa [denL_eq] using hi), denL_eq, List.getElem?_map, hv]
      rfl
    · obtain ⟨rfl, _⟩ := h; simp at hi
  | ro off cs =>
    simp only [VObj.at] at hv
    split at hv
    · rename_i ho
      have hi := (List.getElem?_eq_some_iff.1 hv).1
      simp only [OkObj] at h
      split at h
      · rename_i d hd
        refine ⟨d, hd, ?_⟩
        have := h (i - off) (den σ v) (by rw [denL_eq, List.getElem?_map, hv]; rfl)
        have e : off + (i - off) = i := by omega
        rwa [e] at this
      · subst h; simp at hi
    · cases hv
  | map es => simp [VObj.at] at hv
def getO (o : VObj) (i : Nat) (K : VV → Prop) : Prop :=
  match o with
  | .row cs _ _ => getF cs i K
  | .ro o cs => o ≤ i ∧ getF cs (i - o) K
  | .map _ => False
theorem getO_ok {o : VObj} {i : Nat} {K : VV → Prop} (h : getO o i K) : ∃ v, o.at i = some v ∧ K v := by
  cases o with
  | row cs t m => exact getF_ok h
  | ro off cs => obtain ⟨v, h1, h2⟩ := getF_ok h.2; exact ⟨v, by simp [VObj.at, h.1, h1], h2⟩
  | map es => exact h.elim
def takeO (o : VObj) (i n : Nat) (K : List VV → Prop) : Prop :=
  match o with
  | .row cs _ _ => takeC cs i n K
  | .ro o cs => o ≤ i ∧ takeC cs (i - o) n K
  | .map _ => False
theorem takeO_ok {o : VObj} {i n : Nat} {K : List VV → Prop} (h : takeO o i n K) : ∃ l : List VV, l.length = n ∧ (∀ j v, l[j]? = some v → o.at (i + j) = some v) ∧ K l := by
  cases o with
  | row cs t m =>
    obtain ⟨h1, h2⟩ := takeC_ok h
    refine ⟨_, by simp; omega, ?_, h2⟩
    intro j v hj
    rw [List.getElem?_take] at hj
    split at hj
    · simpa [VObj.at] using hj
    · cases hj
  | ro off cs =>
    obtain ⟨h0, h⟩ := h
    obtain ⟨h1, h2⟩ := takeC_ok h
    refine ⟨_, by simp; omega, ?_, h2⟩
    intro j v hj
    rw [List.getElem?_take] at hj
    split at hj
    · have : i + j - off = i - off + j := by omega
      simp only [VObj.at]
      rw [if_pos (by omega), this]
      simpa using hj
    · cases hj
  | map es => exact h.elim
theorem VObj.at_sc {n : Nat} {o : VObj} (h : o.wf n) {i : Nat} {v : VV} (hv : o.at i = some v) : sc n v := by
  cases o with
  | row cs t m => exact (scL_iff n cs).1 h v (List.mem_of_getElem? hv)
  | ro off cs =>
    simp only [VObj.at] at hv
    split at hv
    · exact (scL_iff n cs).1 h v (List.mem_of_getElem? hv)
    · cases hv
  | map es => simp [VObj.at] at hv
theorem wf_of_sc {n : Nat} {v : VV} (h : sc n v) : wf n v := by cases v <;> simp [sc] at h <;> first | (simp [wf, wf1, sc]; done) | simpa [wf, wf1, sc] using h
theorem oneCell_of_sc {n : Nat} {σ : Sig} {v : VV} (h : sc n v) : (den σ v).oneCell' = true := by cases v <;> simp [sc] at h <;> simp [den, Value.oneCell']

/-- not nothing -/
def liveK (o : VObj) (K : Prop) : Prop :=
  match o with
  | .row _ _ m => match Nat.ble 1 m with
    | true => K
    | false => False
  | .ro _ cs => match cs with
    | _ :: _ => K
    | [] => False
  | .map _ => False
theorem liveK_ok {σ : Sig} {w : World} {b : Nat} {o : VObj} (h : OkObj σ w b o) {K : Prop} (hl : liveK o K) : (∃ d, σ b = some d) ∧ K := by
  cases o with
  | row cs t m =>
    simp only [liveK] at hl
    split at hl
    · rename_i hm
      refine ⟨?_, hl⟩
      simp only [OkObj] at h
      split at h
      · rename_i d hd; exact ⟨d, hd⟩
      · obtain ⟨_, rfl⟩ := h; simp at hm
    · exact hl.elim
  | ro off cs =>
    simp only [liveK] at hl
    split at hl
    · refine ⟨?_, hl⟩
      simp only [OkObj] at h
      split at h
      · rename_i d hd; exact ⟨d, hd⟩
      · cases h
    · exact hl.elim
  | map es => exact hl.elim
theorem liveK_row {cs : List VV} {t : TypeId} {m : Nat} {K : Prop} (h : 0 < m) (k : K) : liveK (.row cs t m) K := by
  have : Nat.ble 1 m = true := by rw [Nat.ble_eq]; exact h
  simp only [liveK, this]; exact k
theorem liveK_ro {cs : List VV} {o : Nat} {K : Prop} (h : 0 < cs.length) (k : K) : liveK (.ro o cs) K := by
  cases cs with
  | nil => simp at h
  | cons c cs => exact k

/-! ### Loads -/
def goodK (y : Ty) (K : Prop) : Prop := match y.kind.good with
  | true => K
  | false => False
theorem goodK_ok {y : Ty} {K : Prop} (h : goodK y K) : y.kind.good = true ∧ K := by
  unfold goodK at h
  split at h
  · exact ⟨‹_›, h⟩
  · exact h.elim
def loadK (T : List Ty) (h : Heap) (t : TypeId) (b off : Nat) (K : VV → Prop) : Prop :=
  tyK T t fun y => goodK y (findK h.es b fun o => match y.kind.isAgg with
    | true => (match y.size with
      | 0 => False
      | n + 1 => takeO o off (n + 1) fun l => K (.agg l))
    | false => getO o off K)
theorem run_isAgg_of {t : TypeId} {d : TypeDesc} (h : P.underlying t = some d) (hg : (tk P d).good = true) (w : World) : (isAgg t).run P w = .ok (tk P d).isAgg w := by
  unfold Go.isAgg
  rw [Sem.run_bind, run_underlying h, Result.andThen_ok]
  cases hk : tk P d with
  | other => rw [hk] at hg; simp [TK.good] at hg
  | int k => rw [tk_int hk]; simp [TK.isAgg]
  | bool => rw [tk_bool hk]; simp [TK.isAgg]
  | str => rw [tk_str hk]; simp [TK.isAgg]
  | ptr e => rw [tk_ptr hk]; simp [TK.isAgg]
  | slice e => rw [tk_slice hk]; simp [TK.isAgg]
  | arr n e => rw [tk_arr hk]; simp [TK.isAgg]
  | map n e => rw [tk_map hk]; simp [TK.isAgg]
  | struct fs => obtain ⟨_, rfl, _⟩ := tk_struct hk; simp [TK.isAgg]
  | func =>
    cases d <;> simp only [tk] at hk <;> first | (cases hk; done) | (exfalso; split at hk <;> cases hk; done) | simp [TK.isAgg]
theorem run_sizeOf_of {t : TypeId} {i : TypeInfo} (h : P.info? t = some i) (w : World) : (sizeOf t).run P w = .ok i.size w := by
  simp [sizeOf, typeInfo, h]
theorem loadK_ok {T : List Ty} (hT : TOk P T) {σ : Sig} {h : Heap} {w : World} (k : Ok σ h w) {t : TypeId} {b off : Nat} {K : VV → Prop} (hl : loadK T h t b off K) :
    ∃ d v, σ b = some d ∧ (loadVar t ⟨d, off, none⟩).run P w = .ok (den σ v) w ∧ wf h.n v ∧ K v := by
  obtain ⟨y, hy, hl⟩ := tyK_ok hl
  obtain ⟨hg, hl⟩ := goodK_ok hl
  obtain ⟨o, ho, hl⟩ := findK_ok hl
  obtain ⟨i, d, z, ty⟩ := hT.get hy hg
  obtain ⟨h1, h2, h3⟩ := k.obj _ ho
  have hag : (tk P d).isAgg = y.kind.isAgg := by rw [ty.kind]
  have hgd : (tk P d).good = true := by rw [ty.kind]; exact hg
  cases hA : y.kind.isAgg with
  | false =>
    rw [hA] at hl
    obtain ⟨v, hv, hk⟩ := getO_ok hl
    obtain ⟨e, he, hc⟩ := h3.at hv
    refine ⟨e, v, he, ?_, wf_of_sc (VObj.at_sc h2 hv), hk⟩
    unfold loadVar
    rw [Sem.run_bind, run_isAgg_of ty.under hgd, Result.andThen_ok, hag, hA]
    simp [hc]
  | true =>
    rw [hA] at hl
    dsimp only at hl
    split at hl
    · exact hl.elim
    · rename_i n hn
      obtain ⟨l, hll, hv, hk⟩ := takeO_ok hl
      have hsz : i.size = l.length := by rw [ty.size, hn, hll]
      have h0 : ∃ v, l[0]? = some v := ⟨l[0]'(by omega), by simp⟩
      obtain ⟨v0, hv0⟩ := h0
      obtain ⟨e, he, hc⟩ := h3.at (hv 0 v0 hv0)
      refine ⟨e, .agg l, he, ?_, ?_, hk⟩
      · unfold loadVar
        rw [Sem.run_bind, run_isAgg_of ty.under hgd, Result.andThen_ok, hag, hA]
        simp only [if_true]
        rw [Sem.run_bind, run_sizeOf_of ty.info, Result.andThen_ok, Sem.run_bind, hsz]
        have := run_loadCells_list (P := P) w ⟨e, off, none⟩ (denL σ l) (fun j u hu => by
          rw [denL_eq, List.getElem?_map] at hu
          cases hj : l[j]? with
          | none => rw [hj] at hu; simp at hu
          | some v =>
            rw [hj] at hu
            simp at hu
            subst hu
            obtain ⟨e', he', hc'⟩ := h3.at (hv j v hj)
            rw [he] at he'; cases he'
            rw [Addr.add_mid]; exact hc')
        rw [denL_eq, List.length_map] at this
        rw [this, Result.andThen_ok]
        simp [den, denL_eq]
      · simp only [wf, wf1, scL_iff]
        intro v hvm
        obtain ⟨j, hj, rfl⟩ := List.mem_iff_getElem.1 hvm
        exact VObj.at_sc h2 (hv j _ (by simp))

/-! ### Stores -/
def cellsK (v : VV) (K : List VV → Prop) : Prop :=
  match v with
  | .agg cs => K cs
  | .tup _ | .any => False
  | v => K [v]
theorem cellsK_ok {σ : Sig} {n : Nat} {v : VV} {u : Value} (hv : FitV σ n v u) {K : List VV → Prop} (h : cellsK v K) : ∃ cs, scL n cs ∧ u.cells.toList = denL σ cs ∧ K cs := by
  rcases hv with rfl | ⟨hw, rfl⟩
  · exact h.elim
  · cases v <;> simp only [cellsK] at h <;> simp only [wf, wf1] at hw <;> first
      | exact h.elim
      | exact ⟨_, hw, by simp [den, Value.cells], h⟩
      | exact ⟨_, by simpa [scL] using hw, by simp [den, denL, Value.cells], h⟩
theorem Step.put {σ : Sig} {h : Heap} {w : World} (k : Ok σ h w) {l r : List (Nat × VObj)} {b : Nat} {cs : List VV} {t : TypeId} {m : Nat} (he : h.es = l ++ (b, .row cs t m) :: r)
    {d : Nat} (hd : σ b = some d) {c : Array Value} {fz : Nat × Nat} (hc : w.heap[d]? = some (.cells c t fz)) {c' : Array Value} {cs' : List VV} (hs : scL h.n cs')
    (hok : ∀ w', w'.heap[d]? = some (.cells c' t fz) → OkObj σ w' b (.row cs' t m)) : Step σ h w σ ⟨h.n, l ++ (b, .row cs' t m) :: r⟩ (w.putObj d (.cells c' t fz)) := by
  have hmem : (b, VObj.row cs t m) ∈ h.es := by rw [he]; simp
  have hlt := (Array.getElem?_eq_some_iff.1 hc).1
  have hsep := k.sep
  rw [he] at hsep
  have hsep' : ∀ e ∈ l ++ r, ∀ d', σ e.1 = some d' → d' ≠ d := by
    intro e hem d' hd' e1
    subst e1
    rcases List.mem_append.1 hem with hm | hm
    · have := (List.pairwise_append.1 hsep).2.2 e hm _ List.mem_cons_self d' hd' hd
      simp [VObj.owned] at this
    · have := (List.pairwise_cons.1 (List.pairwise_append.1 hsep).2.1).1 e hm d' hd hd'
      simp [VObj.owned] at this
  refine ⟨fun _ _ => rfl, Nat.le_refl _, ⟨k.nil, k.pos, ?_, ?_, ?_⟩, rfl, rfl, rfl, by simp [World.putObj], ?_, ?_⟩
  · intro e hem
    rcases List.mem_append.1 hem with hm | hm
    · have hm' : e ∈ h.es := by rw [he]; simp [hm]
      obtain ⟨h1, h2, h3⟩ := k.obj e hm'
      exact ⟨h1, h2, h3.stay fun d' hd' => putObj_other _ _ _ _ (hsep' e (by simp [hm]) d' hd')⟩
    · rcases List.mem_cons.1 hm with rfl | hm
      · exact ⟨(k.obj _ hmem).1, hs, hok _ (putObj_self _ _ _ hlt)⟩
      · have hm' : e ∈ h.es := by rw [he]; simp [hm]
        obtain ⟨h1, h2, h3⟩ := k.obj e hm'
        exact ⟨h1, h2, h3.stay fun d' hd' => putObj_other _ _ _ _ (hsep' e (by simp [hm]) d' hd')⟩
  · rw [List.pairwise_append, List.pairwise_cons] at hsep ⊢
    refine ⟨hsep.1, ⟨fun e hm d' h1 h2 => ?_, hsep.2.1.2⟩, fun e hm e' hm' => ?_⟩
    · have := hsep.2.1.1 e hm d' h1 h2; simp [VObj.owned] at this
    · rcases List.mem_cons.1 hm' with rfl | hm'
      · intro d' h1 h2
        have := hsep.2.2 e hm _ List.mem_cons_self d' h1 h2; simp [VObj.owned] at this
      · exact hsep.2.2 e hm e' (List.mem_cons_of_mem _ hm')
  · intro i hi d' hd'
    have := k.lt i hi d' hd'
    simpa [World.putObj] using this
  · intro b' _ hn
    refine putObj_other _ _ _ _ fun e => hn ⟨_, hmem, rfl, ?_⟩
    rw [e]; exact hd
  · rintro b' _ ⟨e, hem, ho, hd'⟩
    rcases List.mem_append.1 hem with hm | hm
    · exact ⟨e, by rw [he]; simp [hm], ho, hd'⟩
    · rcases List.mem_cons.1 hm with rfl | hm
      · exact ⟨_, hmem, rfl, hd'⟩
      · exact ⟨e, by rw [he]; simp [hm], ho, hd'⟩
def modK : List (Nat × VObj) → Nat → (VObj → (VObj → Prop) → Prop) → (List (Nat × VObj) → Prop) → Prop
  | [], _, _, _ => False
  | (i, o) :: es, b, g, K => match Nat.beq i b with
    | true => g o fun o' => K ((i, o') :: es)
    | false => modK es b g fun es => K ((i, o) :: es)
theorem modK_ok : ∀ {es : List (Nat × VObj)} {b : Nat} {g : VObj → (VObj → Prop) → Prop} {K : List (Nat × VObj) → Prop}, modK es b g K → ∃ l o r, es = l ++ (b, o) :: r ∧ g o fun o' => K (l ++ (b, o') :: r)
  | [], _, _, _, h => h.elim
  | (i, o) :: es, b, g, K, h => by
    simp only [modK] at h
    cases hb : Nat.beq i b <;> simp only [hb] at h
    · obtain ⟨l, o', r, rfl, h2⟩ := modK_ok h
      exact ⟨(i, o) :: l, o', r, rfl, h2⟩
    · obtain rfl := Nat.eq_of_beq_eq_true hb
      exact ⟨[], o, es, rfl, h⟩
def putO (off : Nat) (us : List VV) (o : VObj) (K : VObj → Prop) : Prop :=
  match o with
  | .row cs t m => putC cs off us fun cs' => K (.row cs' t m)
  | _ => False
def writeK (h : Heap) (b off : Nat) (us : List VV) (K : Heap → Prop) : Prop :=
  match us with
  | [] => K h
  | u :: us => modK h.es b (putO off (u :: us)) fun es => K ⟨h.n, es⟩
theorem writeK_ok {σ : Sig} {h : Heap} {w : World} (k : Ok σ h w) {b off : Nat} {us : List VV} (hus : scL h.n us) {K : Heap → Prop} (hl : writeK h b off us K) (hb : ∃ d, σ b = some d) :
    ∃ d h' w', σ b = some d ∧ (storeCells ⟨d, off, none⟩ (denL σ us)).run P w = .ok () w' ∧ Step σ h w σ h' w' ∧ K h' := by
  obtain ⟨d, hd⟩ := hb
  cases us with
  | nil => exact ⟨d, h, w, hd, by simp [denL, storeCells], Step.refl k, hl⟩
  | cons u us =>
    obtain ⟨l, o, r, he, hl⟩ := modK_ok hl
    cases o with
    | row cs t m =>
      obtain ⟨h1, h2⟩ := putC_ok hl
      have hmem : (b, VObj.row cs t m) ∈ h.es := by rw [he]; simp
      obtain ⟨k1, k2, k3⟩ := k.obj _ hmem
      simp only [OkObj, hd] at k3
      obtain ⟨c, fz, sp, e1, e2, e3, e4⟩ := k3
      have hlen : cs.length ≤ c.size := by
        have := congrArg List.length e2
        simp [denL_eq] at this; omega
      have hrun := run_storeCells_put (P := P) d off t fz (denL σ (u :: us)) 0 c w e1 (by simp [denL_eq] at *; omega) (by rw [e3]; exact e4) (fun v hv => by
        rw [denL_eq, List.mem_map] at hv
        obtain ⟨x, hx, rfl⟩ := hv
        exact oneCell_of_sc ((scL_iff _ _).1 hus x hx))
      refine ⟨d, _, _, hd, hrun, Step.put k he hd e1 (cs' := cs.take off ++ (u :: us) ++ cs.drop (off + (u :: us).length)) ?_ ?_, h2⟩
      · simp only [VObj.wf] at k2
        rw [scL_iff] at hus k2 ⊢
        intro v hv
        simp only [List.append_assoc, List.mem_append] at hv
        rcases hv with hv | hv | hv
        · exact k2 v (List.mem_of_mem_take hv)
        · exact hus v hv
        · exact k2 v (List.mem_of_mem_drop hv)
      · intro w' hw'
        simp only [OkObj, hd]
        refine ⟨_, fz, sp, hw', ?_, ?_, e4⟩
        · have hn : (denL σ (u :: us)).length = (u :: us).length := by simp [denL_eq]
          have hc : (denL σ cs).length = cs.length := by simp [denL_eq]
          rw [List.toList_toArray, hn, e2]
          simp only [Nat.add_zero]
          rw [List.take_append_of_le_length (by omega), List.drop_append_of_le_length (by omega)]
          simp [denL_eq, List.map_take, List.map_drop]
        · rw [← e3]
          have hn : (denL σ (u :: us)).length = (u :: us).length := by simp [denL_eq]
          simp only [List.size_toArray, List.length_append, List.length_take, List.length_drop, Array.length_toList, Nat.add_zero, hn]
          omega
    | ro off cs => exact hl.elim
    | map es => exact hl.elim
def storeK (T : List Ty) (h : Heap) (t : TypeId) (b off : Nat) (us : List VV) (K : Heap → Prop) : Prop :=
  tyK T t fun y => goodK y (us.length = y.size ∧ findK h.es b fun o => liveK o (writeK h b off us K))
theorem storeK_ok {T : List Ty} (hT : TOk P T) {σ : Sig} {h : Heap} {w : World} (k : Ok σ h w) {t : TypeId} {b off : Nat} {us : List VV} (hus : scL h.n us) {K : Heap → Prop} (hl : storeK T h t b off us K)
    {u : Value} (hu : u.cells.toList = denL σ us) :
    ∃ d h' w', σ b = some d ∧ (storeVar t ⟨d, off, none⟩ u).run P w = .ok () w' ∧ Step σ h w σ h' w' ∧ K h' := by
  obtain ⟨y, hy, hl⟩ := tyK_ok hl
  obtain ⟨hg, hn, hl⟩ := goodK_ok hl
  obtain ⟨o, ho, hl⟩ := findK_ok hl
  obtain ⟨i, d, z, ty⟩ := hT.get hy hg
  obtain ⟨hb, hl⟩ := liveK_ok (k.obj _ ho).2.2 hl
  obtain ⟨d, h', w', hd, hr, hs, hk⟩ := writeK_ok (P := P) k hus hl hb
  refine ⟨d, h', w', hd, ?_, hs, hk⟩
  have hsz : u.cells.size = i.size := by
    rw [ty.size, ← hn, ← Array.length_toList, hu, denL_eq, List.length_map]
  unfold storeVar
  simp only [sizeOf, typeInfo, Sem.run_bind, Sem.run_pure, Result.andThen_ok, run_program, ty.info]
  rw [if_neg (by simpa using hsz), hu]
  exact hr
end Go.VM
