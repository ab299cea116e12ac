/- Code, functions, calls with what else there is. -/
import Derived.Test.YtfphhdcpjoajbaaV10
namespace Go.VM
open Go.RowKit
variable {P : Program} {T : List Ty} {N : Nat}

theorem PostN.trans {σ σ' : Sig} {h h' : Heap} {w w' : World} (s : StepN N σ h w σ' h' w') {K : Exit → List VV → Heap → Prop} {e : Exit} {a : Act} {w2 : World} (p : PostN N σ' h' w' K e a w2) : PostN N σ h w K e a w2 :=
  let ⟨σ2, f2, h2, q1, q2, q3, q4⟩ := p; ⟨σ2, f2, h2, q1, q2, s.trans q3, q4⟩
theorem SemCode.mono {c : Code} {f : List VV} {h : Heap} {K K' : Exit → List VV → Heap → Prop} (hk : ∀ e f h, K e f h → K' e f h) (s : SemCode P N c f h K) : SemCode P N c f h K' :=
  ⟨fun σ a w k hf hd hN => Code.wp_mono (fun e a w ⟨σ2, f2, h2, q1, q2, q3, q4⟩ => ⟨σ2, f2, h2, q1, q2, q3, hk _ _ _ q4⟩) (s.out σ a w k hf hd hN)⟩

def seqE (K : Exit → List VV → Heap → Prop) (B : List VV → Heap → Prop) : Exit → List VV → Heap → Prop
  | .normal, f, h => B f h
  | e, f, h => K e f h
def blockE (id : Nat) (K : Exit → List VV → Heap → Prop) : Exit → List VV → Heap → Prop
  | .exit i, f, h => eqNK i id (K .normal f h) (K (.exit i) f h)
  | e, f, h => K e f h
def codeK (P : Program) (T : List Ty) (N : Nat) : Code → List VV → Heap → (Exit → List VV → Heap → Prop) → Prop
  | .skip, f, h, K => K .normal f h
  | .region id ops draw, f, h, K => (match draw with
    | false => opsK P T ops.toList ops.toList f h (K .normal)
    | true => SemCode P N (.region id ops true) f h K)
  | .seq a b, f, h, K => codeK P T N a f h (seqE K fun f h => codeK P T N b f h K)
  | .cond c a b, f, h, K => evK f c fun v => (match v with
    | .bool t => condK t (codeK P T N a f h K) (codeK P T N b f h K)
    | _ => False)
  | .block id c, f, h, K => codeK P T N c f h (blockE id K)
  | .exit id, f, h, K => K (.exit id) f h
  | .label _, f, h, K => K .normal f h
  | .ret, f, h, K => K .ret f h
  | .loop c, f, h, K => SemCode P N (.loop c) f h K
  | .rangeFunc a b c d, f, h, K => SemCode P N (.rangeFunc a b c d) f h K
  | .scope c, f, h, K => SemCode P N (.scope c) f h K
  | .goto l, f, h, K => SemCode P N (.goto l) f h K
  | .refuse s, f, h, K => SemCode P N (.refuse s) f h K
theorem codeK_ok (hT : TOk P T) : ∀ {c : Code} {f : List VV} {h : Heap} {K : Exit → List VV → Heap → Prop}, codeK P T N c f h K → SemCode P N c f h K
  | .skip, f, h, K, hk => ⟨fun σ a w k hf hd hN => wp_skip ⟨σ, f, h, hf, hd, (Step.refl k).toN hN, hk⟩⟩
  | .label l, f, h, K, hk => ⟨fun σ a w k hf hd hN => wp_label ⟨σ, f, h, hf, hd, (Step.refl k).toN hN, hk⟩⟩
  | .exit id, f, h, K, hk => ⟨fun σ a w k hf hd hN => wp_exit ⟨σ, f, h, hf, hd, (Step.refl k).toN hN, hk⟩⟩
  | .ret, f, h, K, hk => ⟨fun σ a w k hf hd hN => wp_ret ⟨σ, f, h, hf, hd, (Step.refl k).toN hN, hk⟩⟩
  | .region id ops draw, f, h, K, hk => by
    refine ⟨fun σ a w k hf hd hN => ?_⟩
    cases draw with
    | false => exact wp_region_list (opsK_ok hT hk σ a w k hf hd hN fun _ _ _ h => h)
    | true => exact hk.out σ a w k hf hd hN
  | .seq x y, f, h, K, hk => ⟨fun σ a w k hf hd hN => wp_seq (Code.wp_mono (Q := PostN N σ h w (seqE K fun f h => codeK P T N y f h K)) (fun e a' w' p => by
      obtain ⟨σ', f', h', q1, q2, q3, q4⟩ := p
      cases e with
      | normal => exact Code.wp_mono (fun _ _ _ p => PostN.trans q3 p) ((codeK_ok hT q4).out σ' a' w' q3.ok q1 q2 q3.le)
      | exit id => exact ⟨σ', f', h', q1, q2, q3, q4⟩
      | goto l => exact ⟨σ', f', h', q1, q2, q3, q4⟩
      | ret => exact ⟨σ', f', h', q1, q2, q3, q4⟩
      | panic c => exact ⟨σ', f', h', q1, q2, q3, q4⟩
      | outgrown => exact ⟨σ', f', h', q1, q2, q3, q4⟩) ((codeK_ok (c := x) (K := seqE K fun f h => codeK P T N y f h K) hT hk).out σ a w k hf hd hN))⟩
  | .cond c x y, f, h, K, hk => by
    refine ⟨fun σ a w k hf hd hN => ?_⟩
    obtain ⟨v, hv, hk⟩ := evK_ok k hf hk
    split at hk
    · rename_i t
      obtain ⟨_, he⟩ := hv.of rfl
      simp only [den] at he
      cases t with
      | true => exact wp_cond_true he ((codeK_ok hT hk).out σ a w k hf hd hN)
      | false => exact wp_cond_false he ((codeK_ok hT hk).out σ a w k hf hd hN)
    · exact hk.elim
  | .block id c, f, h, K, hk => ⟨fun σ a w k hf hd hN => wp_block (Code.wp_mono (Q := PostN N σ h w (blockE id K)) (fun e a' w' p => by
      obtain ⟨σ', f', h', q1, q2, q3, q4⟩ := p
      cases e with
      | normal => exact ⟨σ', f', h', q1, q2, q3, q4⟩
      | exit i =>
        simp only [Exit.inBlock]
        rcases eqNK_or q4 with ⟨hq, q5⟩ | ⟨hne, q5⟩
        · rw [if_pos hq]; exact ⟨σ', f', h', q1, q2, q3, q5⟩
        · rw [if_neg hne]; exact ⟨σ', f', h', q1, q2, q3, q5⟩
      | goto l => exact ⟨σ', f', h', q1, q2, q3, q4⟩
      | ret => exact ⟨σ', f', h', q1, q2, q3, q4⟩
      | panic c => exact ⟨σ', f', h', q1, q2, q3, q4⟩
      | outgrown => exact ⟨σ', f', h', q1, q2, q3, q4⟩) ((codeK_ok (c := c) (K := blockE id K) hT hk).out σ a w k hf hd hN))⟩
  | .loop _, _, _, _, hk => hk
  | .rangeFunc _ _ _ _, _, _, _, hk => hk
  | .scope _, _, _, _, hk => hk
  | .goto _, _, _, _, hk => hk
  | .refuse _, _, _, _, hk => hk

/-! ### Other numbers -/
def Cov (o o' : VObj) : Prop := (∀ σ w b, OkObj σ w b o → OkObj σ w b o') ∧ (o'.owned = true → o.owned = true)
theorem Cov.refl (o : VObj) : Cov o o := ⟨fun _ _ _ h => h, fun h => h⟩
theorem VObj.wf_ren {θ : Nat → Nat} {n m : Nat} (h : ∀ i, i < n → θ i < m) {o : VObj} (k : o.wf n) : (o.ren θ).wf m := by
  cases o with
  | row cs t q => exact scL_ren h cs k
  | ro off cs => exact scL_ren h cs k
  | map es =>
    simp only [VObj.wf, VObj.ren, List.mem_map] at *
    rintro _ ⟨e, he, rfl⟩
    exact ⟨wf1_ren h _ (k e he).1, wf1_ren h _ (k e he).2⟩
theorem VObj.owned_ren (θ : Nat → Nat) (o : VObj) : (o.ren θ).owned = o.owned := by cases o <;> rfl
theorem OkObj.ren {σ : Sig} {θ : Nat → Nat} {w : World} {b : Nat} {o : VObj} : OkObj σ w (θ b) (o.ren θ) ↔ OkObj (fun i => σ (θ i)) w b o := by
  cases o with
  | row cs t q => simp only [OkObj, VObj.ren, denL_ren]; cases σ (θ b) <;> simp [renL_eq]
  | ro off cs => simp only [OkObj, VObj.ren, denL_ren]; cases σ (θ b) <;> simp [renL_eq]
  | map es => simp only [OkObj, VObj.ren, List.map_map, Function.comp_def, den_ren]
/-- each entry stands, under its other number, among those -/
def EsR (θ : Nat → Nat) (n : Nat) (es : List (Nat × VObj)) : List (Nat × VObj) → Prop
  | [] => True
  | e :: r => (e.1 < n ∧ e.2.wf n ∧ ∃ o, (θ e.1, o) ∈ es ∧ Cov o (e.2.ren θ)) ∧ EsR θ n es r
theorem EsR.mem {θ : Nat → Nat} {n : Nat} {es : List (Nat × VObj)} : ∀ {r : List (Nat × VObj)}, EsR θ n es r → ∀ e ∈ r, e.1 < n ∧ e.2.wf n ∧ ∃ o, (θ e.1, o) ∈ es ∧ Cov o (e.2.ren θ)
  | [], _, _, h => by simp at h
  | e :: r, k, e', h => by
    rcases List.mem_cons.1 h with rfl | h
    · exact k.1
    · exact k.2.mem e' h
def Apart (θ : Nat → Nat) (es : List (Nat × VObj)) : Prop := es.Pairwise fun e e' => θ e.1 = θ e'.1 → θ e.1 = 0 ∨ (e.2.owned = false ∧ e'.2.owned = false)
theorem Ok.ren {σ : Sig} {h h' : Heap} {w : World} (k : Ok σ h w) {θ : Nat → Nat} (h0 : θ 0 = 0) (hp : 1 ≤ h'.n) (hlt : ∀ i, i < h'.n → θ i < h.n) (hes : EsR θ h'.n h.es h'.es) (hap : Apart θ h'.es) :
    Ok (fun i => if i < h'.n then σ (θ i) else none) h' w := by
  have hag : ∀ i, i < h'.n → (if i < h'.n then σ (θ i) else none) = σ (θ i) := fun i hi => by rw [if_pos hi]
  refine ⟨?_, hp, ?_, ?_, ?_⟩
  · rw [hag 0 hp, h0]; exact k.nil
  · intro e he
    obtain ⟨h1, h2, o, ho, hc⟩ := hes.mem e he
    refine ⟨h1, h2, ?_⟩
    have := hc.1 _ _ _ (k.obj _ ho).2.2
    rw [OkObj.ren] at this
    exact this.agree h1 h2 fun i hi => hag i hi
  · refine hap.imp_of_mem fun {e e'} he he' hs d hd hd' => ?_
    obtain ⟨h1, h2, o, ho, hc⟩ := hes.mem e he
    obtain ⟨h1', h2', o', ho', hc'⟩ := hes.mem e' he'
    dsimp only at hd hd'
    rw [hag _ h1] at hd
    rw [hag _ h1'] at hd'
    by_cases heq : θ e.1 = θ e'.1
    · rcases hs heq with hz | hs
      · rw [hz, k.nil] at hd; cases hd
      · exact hs
    · obtain ⟨i, hi, hi'⟩ := List.mem_iff_getElem.1 ho
      obtain ⟨j, hj, hj'⟩ := List.mem_iff_getElem.1 ho'
      have hsep : ∀ a b, a ∈ h.es → b ∈ h.es → a.1 ≠ b.1 → Sep1 σ a b := by
        intro a b ha hb hab
        obtain ⟨i, hi, rfl⟩ := List.mem_iff_getElem.1 ha
        obtain ⟨j, hj, rfl⟩ := List.mem_iff_getElem.1 hb
        rcases Nat.lt_trichotomy i j with hij | rfl | hij
        · exact List.pairwise_iff_getElem.1 k.sep i j hi hj hij
        · exact absurd rfl hab
        · intro d h1 h2
          have := List.pairwise_iff_getElem.1 k.sep j i hj hi hij d h2 h1
          exact ⟨this.2, this.1⟩
      have := hsep _ _ ho ho' heq d hd hd'
      refine ⟨?_, ?_⟩
      · cases hx : e.2.owned with
        | false => rfl
        | true => have := hc.2 (by rw [VObj.owned_ren]; exact hx); simp_all
      · cases hx : e'.2.owned with
        | false => rfl
        | true => have := hc'.2 (by rw [VObj.owned_ren]; exact hx); simp_all
  · intro i hi d hd
    rw [hag i hi] at hd
    exact k.lt _ (hlt i hi) d hd
theorem OwnedB.ren {σ : Sig} {h h' : Heap} {θ : Nat → Nat} (hes : EsR θ h'.n h.es h'.es) {b : Nat} (ho : OwnedB (fun i => if i < h'.n then σ (θ i) else none) h' b) : OwnedB σ h b := by
  obtain ⟨e, he, hown, hd⟩ := ho
  obtain ⟨h1, h2, o, ho, hc⟩ := hes.mem e he
  dsimp only at hd
  rw [if_pos h1] at hd
  exact ⟨_, ho, hc.2 (by rw [VObj.owned_ren]; exact hown), hd⟩
/-- what is known is told by other numbers, and not all of it -/
theorem StepN.ren {σ σ' : Sig} {h h' h'' : Heap} {w w' : World} (s : StepN N σ h w σ' h' w') {θ : Nat → Nat} (h0 : θ 0 = 0) (hN : N ≤ h''.n) (hp : 1 ≤ h''.n) (hid : ∀ i, i < N → θ i = i) (hlt : ∀ i, i < h''.n → θ i < h'.n)
    (hes : EsR θ h''.n h'.es h''.es) (hap : Apart θ h''.es) : StepN N σ h w (fun i => if i < h''.n then σ' (θ i) else none) h'' w' :=
  ⟨fun i hi => by rw [if_pos (by omega), hid i hi]; exact s.agree i hi, hN, s.ok.ren h0 hp hlt hes hap, s.os, s.tape, s.output, s.size, s.frame, fun b hb ho => s.owned b hb (OwnedB.ren hes ho)⟩
theorem fit_ren {σ : Sig} {n m : Nat} {θ : Nat → Nat} {v : VV} {u : Value} (hu : FitV σ n (ren θ v) u) (hw : wf m v) : FitV (fun i => if i < m then σ (θ i) else none) m v u := by
  rcases hu with e | ⟨_, e⟩
  · cases v <;> simp [ren] at e
    exact .inl rfl
  · refine .inr ⟨hw, ?_⟩
    rw [e, den_ren]
    exact (den_agree (fun i hi => by rw [if_pos hi]) v hw).symm

/-- the numbers below N stay, those behind are l's -/
def thet (N : Nat) (l : List Nat) : Nat → Nat := fun i => if i < N then i else l.getD (i - N) 0
/-- what a function hands back, told by other numbers -/
def RetK (N : Nat) (v : VV) (h : Heap) (K : VV → Heap → Prop) : Prop :=
  ∃ (l : List Nat) (v' : VV) (h' : Heap), h'.n = N + l.length ∧ (∀ x ∈ l, x < h.n) ∧ v = ren (thet N l) v' ∧ wf h'.n v' ∧ EsR (thet N l) h'.n h.es h'.es ∧ Apart (thet N l) h'.es ∧ K v' h'
/-- the simplest: nothing new is told -/
theorem ret_same {v : VV} {h : Heap} {K : VV → Heap → Prop} {h' : Heap} (hn : h'.n = N) (hv : v = ren (thet N []) v) (hw : wf N v) (hes : EsR (thet N []) N h.es h'.es) (hap : Apart (thet N []) h'.es) (hk : K v h') : RetK N v h K :=
  ⟨[], v, h', by simpa using hn, by simp, hv, by rw [hn]; exact hw, by rw [hn]; exact hes, hap, hk⟩
def resK (T : List Ty) (f : List VV) (h : Heap) : List ResultVar → (List VV → Prop) → Prop
  | [], K => K []
  | .tmp t :: r, K => getF f t fun v => resK T f h r fun vs => K (v :: vs)
  | .cell a t :: r, K => getF f a fun v => (match v with
    | .ptr b off => loadK T h t b off fun v => resK T f h r fun vs => K (v :: vs)
    | _ => False)
def oneK (vs : List VV) (K : VV → Prop) : Prop :=
  match vs with
  | [v] => K v
  | vs => K (.tup vs)
def retE (T : List Ty) (N : Nat) (rs : List ResultVar) (K : VV → Heap → Prop) : Exit → List VV → Heap → Prop
  | .normal, f, h => resK T f h rs fun vs => oneK vs fun v => RetK N v h K
  | .ret, f, h => resK T f h rs fun vs => oneK vs fun v => RetK N v h K
  | _, _, _ => False
theorem resK_ok (hT : TOk P T) {σ : Sig} {h : Heap} {w : World} (k : Ok σ h w) {f : List VV} {t : Array Value} (hf : FRel σ h.n f t) : ∀ {rs : List ResultVar} {K : List VV → Prop}, resK T f h rs K →
    ∃ vs us, (rs.mapM (fun | .tmp x => Pure.pure (t.getD x undef) | .cell a ty => do loadVar ty (← asAddr (t.getD a undef)) : ResultVar → Sem Value)).run P w = .ok us w ∧ vs.length = us.length ∧
      (∀ (i : Nat) v u, vs[i]? = some v → us[i]? = some u → FitV σ h.n v u) ∧ K vs
  | [], K, hk => ⟨[], [], by simp, rfl, by simp, hk⟩
  | .tmp x :: r, K, hk => by
    obtain ⟨v, hv, hk⟩ := getF_ok hk
    obtain ⟨vs, us, hr, hl, hfit, hk⟩ := resK_ok hT k hf hk
    refine ⟨v :: vs, t.getD x undef :: us, ?_, by simp [hl], ?_, hk⟩
    · rw [List.mapM_cons, Sem.run_bind]
      simp only [Sem.run_pure, Result.andThen_ok]
      rw [Sem.run_bind, hr]
      simp
    · intro i a b ha hb
      cases i with
      | zero => simp only [List.getElem?_cons_zero, Option.some.injEq] at ha hb; subst ha; subst hb; exact hf.2 x v hv
      | succ i => exact hfit i a b (by simpa using ha) (by simpa using hb)
  | .cell x ty :: r, K, hk => by
    obtain ⟨v, hv, hk⟩ := getF_ok hk
    split at hk
    · obtain ⟨_, e⟩ := (hf.2 x _ hv).of rfl
      obtain ⟨d, v, hd, hrun, hw, hk⟩ := loadK_ok hT k hk
      simp only [den, hd, Option.map_some] at e
      obtain ⟨vs, us, hr, hl, hfit, hk⟩ := resK_ok hT k hf hk
      refine ⟨v :: vs, den σ v :: us, ?_, by simp [hl], ?_, hk⟩
      · have ha : ∀ ad, t.getD x undef = .pointer (some ad) → (asAddr (t.getD x undef)).run P w = .ok ad w := fun ad h => by rw [h]; rfl
        rw [List.mapM_cons, Sem.run_bind, Sem.run_bind, ha _ e, Result.andThen_ok, hrun, Result.andThen_ok, Sem.run_bind, hr]
        simp
      · intro i a b ha hb
        cases i with
        | zero => simp at ha hb; subst ha; subst hb; exact fit_den hw
        | succ i => exact hfit i a b (by simpa using ha) (by simpa using hb)
    · exact hk.elim
theorem oneK_ok {σ : Sig} {n : Nat} {vs : List VV} {us : List Value} (hl : vs.length = us.length) (hfit : ∀ (i : Nat) v u, vs[i]? = some v → us[i]? = some u → FitV σ n v u) {K : VV → Prop} (hk : oneK vs K)
    (hw : ∀ v, K v → wf n v) : ∃ v, FitV σ n v (if h : us.toArray.size = 1 then us.toArray[0] else .tuple us.toArray) ∧ K v := by
  unfold oneK at hk
  split at hk
  · rename_i v
    cases us with
    | nil => simp at hl
    | cons u us =>
      cases us with
      | nil => exact ⟨v, by simpa using hfit 0 v u rfl rfl, hk⟩
      | cons _ _ => simp at hl
  · rename_i hne
    refine ⟨_, .inr ⟨hw _ hk, ?_⟩, hk⟩
    have h1 : us.length ≠ 1 := by
      intro h1
      cases vs with
      | nil => simp at hl; omega
      | cons v vs => cases vs with
        | nil => exact hne v rfl
        | cons _ _ => simp at hl; omega
    rw [dif_neg (by simpa using h1)]
    simp only [den]
    congr 2
    have hww := hw _ hk
    simp only [wf] at hww
    rw [denL_eq]
    apply List.ext_getElem?
    intro i
    rw [List.getElem?_map]
    cases hv : vs[i]? with
    | none =>
      rw [List.getElem?_eq_none_iff] at hv
      rw [List.getElem?_eq_none (by omega)]; rfl
    | some v =>
      have hi := (List.getElem?_eq_some_iff.1 hv).1
      have hu : us[i]? = some (us[i]'(by omega)) := by simp
      rw [hu]
      rcases hfit i v _ hv hu with e | ⟨_, e⟩
      · have := hww v (List.mem_of_getElem? hv)
        rw [e] at this; simp [wf1, sc] at this
      · simp [e]
theorem gam_enter (hT : TOk P T) {g : FuncId} {fn : Func} {c : Code} {args : List VV} {h : Heap} {K : VV → Heap → Prop} (he : entersB P g = true) (hf : P.funcs[g]? = some fn) (hb : fn.body = some c) {nt : Nat} (hnt : fn.ntmps = nt) {rs : List ResultVar} (hrs : fn.results.toList = rs)
    (hk : codeK P T h.n c (args ++ List.replicate (nt - args.length) (.tup [])) h (retE T h.n rs K)) : Gam P g args h K := by
  refine ⟨he, fun σ w us k hl hfit => calls_of_wp hf hb ?_⟩
  have hf0 : FRel σ h.n (args ++ List.replicate (nt - args.length) (.tup [])) (us ++ Array.replicate (fn.ntmps - us.size) undef) := by
    refine ⟨by simp [hl, hnt], fun i v hv => ?_⟩
    rw [Array.getD_eq_getD_getElem?]
    by_cases hi : i < args.length
    · rw [List.getElem?_append_left hi] at hv
      rw [Array.getElem?_append_left (by omega)]
      have hu : us[i]? = some (us[i]'(by omega)) := by simp
      rw [hu]
      exact hfit i v _ hv hu
    · rw [List.getElem?_append_right (by omega)] at hv
      rw [Array.getElem?_append_right (by omega)]
      rw [List.getElem?_replicate] at hv
      split at hv
      · cases hv
        rw [Array.getElem?_replicate, if_pos (by omega)]
        exact .inr ⟨by simp [wf], by simp [den, denL, undef]⟩
      · cases hv
  refine Code.wp_mono (fun e a' w' p => ?_) ((codeK_ok hT hk).out σ _ w k hf0 rfl (Nat.le_refl _))
  obtain ⟨σ', f', h', q1, q2, q3, q4⟩ := p
  have key : (resK T f' h' rs fun vs => oneK vs fun v => RetK h.n v h' K) → a'.defers = [] ∧ ∃ v, (results fn a'.tmps).run P w' = .ok v w' ∧ ∃ σ'' h'' v' u, Ending.returned v = .returned u ∧ FitV σ'' h''.n v' u ∧ Step σ h w σ'' h'' w' ∧ K v' h'' := by
    intro q4
    obtain ⟨vs, us', hr, hl', hfit', hk'⟩ := resK_ok hT q3.ok q1 q4
    obtain ⟨v, hv, hk''⟩ := oneK_ok hl' hfit' hk' (fun v hv => by
      obtain ⟨l, v', h'', e1, e2, rfl, e4, _⟩ := hv
      refine wf_ren (fun i hi => ?_) v' e4
      unfold thet
      split
      · have := q3.le; omega
      · cases hx : l[i - h.n]? with
        | none => rw [List.getElem?_eq_none_iff] at hx; omega
        | some x => rw [List.getD_eq_getElem?_getD, hx]; exact e2 x (List.mem_of_getElem? hx))
    refine ⟨q2, (if h : us'.toArray.size = 1 then us'.toArray[0] else .tuple us'.toArray), ?_, ?_⟩
    · unfold results
      rw [Array.mapM_eq_mapM_toList, hrs, Sem.run_bind, Sem.run_map]
      refine (congrArg (fun r => Result.andThen (Result.andThen r (fun a w' => Result.ok a.toArray w')) (fun a w' => Sem.run P (Pure.pure (if h : a.size = 1 then a[0] else Value.tuple a)) w')) hr).trans ?_
      simp
    · obtain ⟨l, v', h'', e1, e2, rfl, e4, e5, e6, e7⟩ := hk''
      have hlt : ∀ i, i < h''.n → thet h.n l i < h'.n := fun i hi => by
        unfold thet
        split
        · have := q3.le; omega
        · cases hx : l[i - h.n]? with
          | none => rw [List.getElem?_eq_none_iff] at hx; omega
          | some x => rw [List.getD_eq_getElem?_getD, hx]; exact e2 x (List.mem_of_getElem? hx)
      have s2 := q3.ren (θ := thet h.n l) (h'' := h'') (by unfold thet; rw [if_pos (show 0 < h.n from k.pos)]) (by omega) (by have := k.pos; omega) (fun i hi => by unfold thet; rw [if_pos hi]) hlt e5 e6
      exact ⟨_, h'', v', _, rfl, fit_ren hv e4, ⟨s2.agree, s2.le, s2.ok, s2.os, s2.tape, s2.output, s2.size, s2.frame, s2.owned⟩, e7⟩
  cases e with
  | normal => exact key q4
  | ret => exact key q4
  | exit id => exact q4.elim
  | goto l => exact q4.elim
  | panic c => exact q4.elim
  | outgrown => exact q4.elim
theorem cond_ways {b : Bool} {A B : Prop} (h1 : b = true → A) (h2 : b = false → B) : condK b A B := by
  cases b
  · exact h2 rfl
  · exact h1 rfl
theorem cond_yes {b : Bool} {A B : Prop} (h : b = true) (h1 : A) : condK b A B := by subst h; exact h1
theorem cond_no {b : Bool} {A B : Prop} (h : b = false) (h1 : B) : condK b A B := by subst h; exact h1
/-- a value without numbers, nothing new -/
theorem ret_plain {v : VV} {h : Heap} {K : VV → Heap → Prop} (hv : v = ren (thet N []) v) (hw : wf N v) (hk : K v ⟨N, []⟩) : RetK N v h K :=
  ret_same (h' := ⟨N, []⟩) rfl hv hw trivial .nil hk
end Go.VM
