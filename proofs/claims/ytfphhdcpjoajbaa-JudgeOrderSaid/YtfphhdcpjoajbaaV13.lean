/- Regions that draw their order, over virtual values. -/
import Derived.Test.YtfphhdcpjoajbaaV12
import Derived.Test.YtfphhdcpjoajbaaD3
namespace Go.VM
open Go.RowKit Go.Draw
variable {P : Program} {T : List Ty} {N : Nat}

theorem wl_listMapM' {α β : Type} (f : α → Sem β) (hf : ∀ a, WL P (f a)) : ∀ l : List α, WL P (l.mapM f)
  | [] => by rw [List.mapM_nil]; exact wl_pure _
  | a :: l => by rw [List.mapM_cons]; exact (hf a).bind fun _ => (wl_listMapM' f hf l).bind fun _ => wl_pure _
theorem wl_build' (t : TypeId) (ps : Array (Nat × Value)) : WL P (Instr.build t ps) := by
  unfold Instr.build
  refine (wl_zeroValue t).bind fun z => ?_
  refine (wl_underlying t).bind fun d => ?_
  split
  · rw [Array.mapM_eq_mapM_toList]
    refine WL.bind ?_ fun _ => ?_
    · refine WL.bind (wl_listMapM' _ (fun f => (wl_sizeOf _).bind fun _ => wl_pure _) _) fun _ => wl_pure _
    · split
      · exact wl_pure _
      · exact wl_stuck _
  · refine (wl_sizeOf _).bind fun _ => ?_
    split
    · exact wl_pure _
    · exact wl_stuck _
  · exact wl_stuck _

/-! a load is determined -/
theorem tyK_det : ∀ {T : List Ty} {t : Nat} {K : Ty → Prop}, tyK T t K → ∃ y, K y ∧ ∀ K' : Ty → Prop, K' y → tyK T t K'
  | [], _, _, h => h.elim
  | y :: _, 0, _, h => ⟨y, h, fun _ h => h⟩
  | _ :: T, n + 1, K, h => tyK_det (T := T) (t := n) h
theorem findK_det : ∀ {es : List (Nat × VObj)} {b : Nat} {K : VObj → Prop}, findK es b K → ∃ o, K o ∧ ∀ K' : VObj → Prop, K' o → findK es b K'
  | [], _, _, h => h.elim
  | (i, o) :: es, b, K, h => by
    simp only [findK] at h ⊢
    cases hb : Nat.beq i b <;> simp only [hb] at h ⊢
    · exact findK_det h
    · exact ⟨o, h, fun _ h => h⟩
theorem getF_det : ∀ {f : List VV} {i : Nat} {K : VV → Prop}, getF f i K → ∃ v, K v ∧ ∀ K' : VV → Prop, K' v → getF f i K'
  | [], _, _, h => h.elim
  | v :: _, 0, _, h => ⟨v, h, fun _ h => h⟩
  | _ :: f, n + 1, K, h => getF_det (f := f) (i := n) h
theorem takeC_det {cs : List VV} {o n : Nat} {K : List VV → Prop} (h : takeC cs o n K) : ∃ v, K v ∧ ∀ K' : List VV → Prop, K' v → takeC cs o n K' :=
  let ⟨h1, h2⟩ := takeC_ok h; ⟨_, h2, fun _ h => takeC_of h1 h⟩
theorem loadK_det {h : Heap} {t : TypeId} {b off : Nat} {K : VV → Prop} (hk : loadK T h t b off K) : ∃ v, K v ∧ ∀ K' : VV → Prop, K' v → loadK T h t b off K' := by
  unfold loadK at hk ⊢
  obtain ⟨y, hk, hy⟩ := tyK_det hk
  obtain ⟨hg, hk⟩ := goodK_ok hk
  obtain ⟨o, hk, ho⟩ := findK_det hk
  have hg' : ∀ A : Prop, A → goodK y A := fun A hA => by unfold goodK; rw [hg]; exact hA
  split at hk
  · split at hk
    · exact hk.elim
    · rename_i n hn
      cases o with
      | row cs t' m =>
        obtain ⟨v, hk, hv⟩ := takeC_det hk
        refine ⟨.agg v, hk, fun K' h' => hy _ (hg' _ (ho _ ?_))⟩
        simp only [*]
        exact hv _ h'
      | ro o' cs =>
        obtain ⟨h1, hk⟩ := hk
        obtain ⟨v, hk, hv⟩ := takeC_det hk
        refine ⟨.agg v, hk, fun K' h' => hy _ (hg' _ (ho _ ?_))⟩
        simp only [*]
        exact ⟨h1, hv _ h'⟩
      | map es => exact hk.elim
  · cases o with
    | row cs t' m =>
      obtain ⟨v, hk, hv⟩ := getF_det hk
      refine ⟨v, hk, fun K' h' => hy _ (hg' _ (ho _ ?_))⟩
      simp only [*]
      exact hv _ h'
    | ro o' cs =>
      obtain ⟨h1, hk⟩ := hk
      obtain ⟨v, hk, hv⟩ := getF_det hk
      refine ⟨v, hk, fun K' h' => hy _ (hg' _ (ho _ ?_))⟩
      simp only [*]
      exact ⟨h1, hv _ h'⟩
    | map es => exact hk.elim

/-! ### Plans -/
def sameKindB : VV → VV → Bool
  | .int _ _, .int _ _ | .str _, .str _ | .bool _, .bool _ => true
  | _, _ => false
def takeK (P : Program) (T : List Ty) (R : Heap) (o : Oper) (f : List VV) (h : Heap) (K : VV → Heap → Prop) : Prop :=
  match o.op with
  | .load t x => evK f x fun v => (match v with
    | .ptr b off => loadK T R t b off fun v => K v h
    | _ => False)
  | .binOp op t x y _ => evK f x fun v => evK f y fun u => (match sameKindB v u with
    | true => binK T op t h v u fun r => K r h
    | false => False)
  | .nilCheck x => evK f x fun v => (match v with
    | .ptr b off => findK h.es b fun o => liveK o (K (.ptr b off) h)
    | _ => False)
  | .call c => (match c.callee, c.args, c.argTypes with
    | .builtin .len, ⟨[x]⟩, ⟨[t]⟩ => evK f x fun v => (match v with
      | .sl b o n c => lenK T h t (.sl b o n c) fun v => K v h
      | .str s => lenK T h t (.str s) fun v => K v h
      | _ => False)
    | _, _, _ => False)
  | .fieldAddr s x i => opK P T o f h K
  | .build t ps => opK P T o f h K
  | .makeFunc (.func g) ⟨[]⟩ caps => opK P T o f h K
  | _ => (match silentOp o with
    | true => opK P T o f h K
    | false => False)
def inR : List (Nat × VObj) → List (Nat × VObj) → Prop → Prop
  | [], _, K => K
  | (i, o) :: r, es, K => findK es i fun o' => o' = o ∧ inR r es K
theorem inR_ok : ∀ (r : List (Nat × VObj)) {es : List (Nat × VObj)} {K : Prop}, inR r es K → (∀ e ∈ r, e ∈ es) ∧ K
  | [], es, K, h => ⟨by simp, h⟩
  | (i, o) :: r, es, K, h => by
    obtain ⟨o', ho, e1, h⟩ := findK_ok h
    obtain ⟨h1, h2⟩ := inR_ok r h
    refine ⟨fun e he => ?_, h2⟩
    rcases List.mem_cons.1 he with rfl | he
    · rw [← e1]; exact ho
    · exact h1 e he
def effK (P : Program) (T : List Ty) (ops : List Oper) (R : Heap) (i : Nat) (f : List VV) (h : Heap) (K : List VV → Heap → Prop) : Prop :=
  nthK ops i fun o => guardK ops o.guard f (opK P T o f h fun v h' => inR R.es h'.es (putK f o.dst v fun f => K f h')) (putK f o.dst (.tup []) fun f => K f h)
def planK (P : Program) (T : List Ty) (ops : List Oper) (R : Heap) : Plan → List VV → Heap → (List VV → Heap → Prop) → Prop
  | .done, f, h, K => K f h
  | .take i p, f, h, K => nthK ops i fun o => guardK ops o.guard f (takeK P T R o f h fun v h => putK f o.dst v fun f => planK P T ops R p f h K) (putK f o.dst (.tup []) fun f => planK P T ops R p f h K)
  | .eff i p, f, h, K => effK P T ops R i f h fun f h => planK P T ops R p f h K
  | .eff2 i j p q, f, h, K => effK P T ops R i f h (fun f h => planK P T ops R p f h K) ∧ effK P T ops R j f h (fun f h => planK P T ops R q f h K)
  | .eff3 i j m p q r, f, h, K => effK P T ops R i f h (fun f h => planK P T ops R p f h K) ∧ effK P T ops R j f h (fun f h => planK P T ops R q f h K) ∧ effK P T ops R m f h (fun f h => planK P T ops R r f h K)

theorem evK_mono {f : List VV} {x : Operand} {A B : VV → Prop} (h : ∀ v, A v → B v) (hk : evK f x A) : evK f x B := by
  cases x with
  | tmp t => obtain ⟨v, h1, h2⟩ := getF_det hk; exact h2 _ (h v h1)
  | const v => exact h _ hk
  | func g => exact h _ hk
  | global g => exact hk.elim
theorem wl_len' {t : TypeId} {ty : TypeId} {v : Value} (hv : (∃ a n c, v = .slice a n c) ∨ ∃ s, v = .string s) : WL P (Builtin.len_ #[t] ty #[v]) := by
  rcases hv with ⟨a, n, c, rfl⟩ | ⟨s, rfl⟩ <;> unfold Builtin.len_ <;> refine (wl_underlying t).bind fun d => ?_ <;> cases d <;>
    first | exact wl_pure _ | exact wl_stuck _ | (refine (wl_underlying _).bind fun d => ?_; cases d <;> first | exact wl_pure _ | exact wl_stuck _)
theorem takeK_ok (hT : TOk P T) {R : Heap} {σ0 : Sig} {o : Oper} {f : List VV} {h : Heap} {K : VV → Heap → Prop} (hk : takeK P T R o f h K) {σ : Sig} {a : Act} {w : World} (k : Ok σ h w) (hf : FRel σ h.n f a.tmps) (kR : Ok σ0 R w)
    (hag : ∀ i, i < R.n → σ i = σ0 i) (hRn : R.n ≤ h.n) :
    ∃ s : Sem Value, execOp a.eval o = (do Pure.pure (Next.value (← s))) ∧ ∃ σ' h' v u u', s.run P w = .ok u w ∧ (∀ w', Ok σ0 R w' → s.run P w' = .ok u w') ∧ a.put o.dst u = a.put o.dst u' ∧ FitV σ' h'.n v u' ∧ Step σ h w σ' h' w ∧ K v h' := by
  have silent : ∀ {s : Sem Value}, execOp a.eval o = (do Pure.pure (Next.value (← s))) → WL P s → SemOp P o f h K →
      ∃ s : Sem Value, execOp a.eval o = (do Pure.pure (Next.value (← s))) ∧ ∃ σ' h' v u u', s.run P w = .ok u w ∧ (∀ w', Ok σ0 R w' → s.run P w' = .ok u w') ∧ a.put o.dst u = a.put o.dst u' ∧ FitV σ' h'.n v u' ∧ Step σ h w σ' h' w ∧ K v h' := by
    intro s he hwl hop
    have hs := hop.out σ a w k hf
    unfold Oper.wp at hs
    rw [he, Sem.run_bind] at hs
    cases hr : s.run P w with
    | halt x w1 =>
      rw [hr] at hs
      cases x <;> simp [Result.andThen, Oper.upon, VM.NoQ] at hs
    | ok u w1 =>
      obtain ⟨rfl, h2⟩ := hwl _ _ _ hr
      rw [hr] at hs
      simp only [Result.andThen_ok, Sem.run_pure, Oper.upon] at hs
      obtain ⟨σ', h', v, u', hput, hv, hst, hK⟩ := hs
      exact ⟨s, he, σ', h', v, u, u', hr, fun w' _ => h2 w', hput, hv, hst, hK⟩
  unfold takeK at hk
  split at hk
  · rename_i t x ho
    obtain ⟨v, hv, hk1⟩ := evK_ok k hf hk
    clear hk
    split at hk1
    · rename_i b off
      obtain ⟨hw, he⟩ := hv.of rfl
      obtain ⟨u, hK, hdet⟩ := loadK_det hk1
      have hl := hdet (fun v => v = u) rfl
      obtain ⟨d, v, hd, hr, hwv, rfl⟩ := loadK_ok hT kR hl
      have hb : b < R.n := by
        obtain ⟨y, _, hl⟩ := tyK_ok hl
        obtain ⟨_, hl⟩ := goodK_ok hl
        obtain ⟨o', ho', _⟩ := findK_ok hl
        exact (kR.obj _ ho').1
      simp only [den, hag b hb, hd, Option.map_some] at he
      refine ⟨Instr.loadAt t (a.eval x), by unfold execOp; rw [ho], σ, h, v, den σ0 v, den σ0 v, ?_, fun w' kR' => ?_, rfl, .inr ⟨wf_mono hRn v hwv, (den_agree hag v hwv).symm⟩, Step.refl k, hK⟩
      · rw [he]; simp [Instr.loadAt, Instr.sureAddr, hr]
      · obtain ⟨d', v', hd', hr', _, rfl⟩ := loadK_ok hT kR' hl
        rw [hd] at hd'; cases hd'
        rw [he]; simp [Instr.loadAt, Instr.sureAddr, hr']
    · exact hk1.elim
  · rename_i op t x y t' ho
    obtain ⟨v, hv, hk1⟩ := evK_ok k hf hk
    obtain ⟨u, hu, hk2⟩ := evK_ok k hf hk1
    split at hk2
    · rename_i hsk
      obtain ⟨r, hr, hw, hd, hK⟩ := binK_ok hT k hv hu hk2 x y
      refine ⟨_, by unfold execOp; rw [ho], σ, h, r, _, _, hr, fun w' _ => ?_, rfl, .inr ⟨hw _, (hd σ).symm⟩, Step.refl k, hK⟩
      have hwl : WL P (do eqGuard op t x y (a.eval x) (a.eval y); binOp op t (a.eval x) (a.eval y) : Sem Value) := by
        cases v <;> cases u <;> simp [sameKindB] at hsk <;> (
          obtain ⟨_, e1⟩ := hv.of rfl
          obtain ⟨_, e2⟩ := hu.of rfl
          simp only [den] at e1 e2
          rw [e1, e2]
          exact (wl_eqGuard _ _ _ _ _ _ rfl).bind fun _ => by first | exact wl_binInt _ _ _ _ _ _ | exact wl_binStr _ _ _ _ | exact wl_binBool _ _ _ _)
      exact (hwl _ _ _ hr).2 w'
    · exact hk2.elim
  · rename_i x ho
    obtain ⟨v, hv, hk1⟩ := evK_ok k hf hk
    clear hk
    split at hk1
    · rename_i b off
      obtain ⟨hw, he⟩ := hv.of rfl
      obtain ⟨o', ho', hk2⟩ := findK_ok hk1
      obtain ⟨⟨d, hd⟩, hK⟩ := liveK_ok (k.obj _ ho').2.2 hk2
      refine ⟨Pure.pure (a.eval x), ?_, σ, h, _, a.eval x, a.eval x, by simp, fun w' _ => by simp, rfl, hv, Step.refl k, hK⟩
      simp only [den, hd, Option.map_some] at he
      simp [execOp, ho, he]
    · exact hk1.elim
  · rename_i c ho
    obtain ⟨callee, args, ats⟩ := c
    dsimp only at hk
    split at hk
    · rename_i x t
      obtain ⟨v, hv, hk1⟩ := evK_ok k hf hk
      have hlen : execOp a.eval o = (do Pure.pure (Next.value (← Builtin.len_ #[t] o.type #[a.eval x]))) := by
        rw [exec_builtin1 ho]; simp [invoke, builtin]
      have hop : SemOp P o f h K := sem_len hT ho (evK_mono (fun v hv => by split at hv <;> first | exact hv | exact hv.elim) hk)
      refine silent hlen (wl_len' ?_) hop
      split at hk1
      · obtain ⟨hw, he⟩ := hv.of rfl
        simp only [den] at he
        exact .inl ⟨_, _, _, he⟩
      · obtain ⟨hw, he⟩ := hv.of rfl
        simp only [den] at he
        exact .inr ⟨_, he⟩
      · exact hk1.elim
    · exact hk.elim
  · rename_i s x i ho
    have hop := opK_ok hT hk
    refine silent (s := Instr.fieldAt s (a.eval x) i) (by unfold execOp; rw [ho]) (wl_fieldAt ?_ _) hop
    unfold opK at hk
    rw [ho] at hk
    obtain ⟨v, hv, hk1⟩ := evK_ok k hf hk
    clear hk
    split at hk1
    · obtain ⟨fs, fd, ti, h1, h2, h3, hk2⟩ := structK_ok hT hk1
      unfold fieldNZ
      rw [h1]
      simp only [h2, h3, Option.any_some]
      split at hk2
      · exact hk2.elim
      · rename_i n hn; rw [hn]; rfl
    · exact hk1.elim
  · rename_i t ps ho
    exact silent (s := Instr.build t (ps.map fun (i, x) => (i, a.eval x))) (by unfold execOp; rw [ho]) (wl_build' _ _) (opK_ok hT hk)
  · rename_i g caps ho
    exact silent (s := Instr.makeFunc (.func g) (Array.map a.eval #[]) (caps.map a.eval)) (by unfold execOp; rw [ho]) (wl_pure _) (opK_ok hT hk)
  · split at hk
    · rename_i hs
      obtain ⟨s, he, hwl⟩ := silent_run (P := P) (ρ := a.eval) hs
      exact silent he hwl (opK_ok hT hk)
    · exact hk.elim

theorem planK_ok (hT : TOk P T) {ops : Array Oper} {R : Heap} {σ0 : Sig} {K : Exit → List VV → Heap → Prop} {Q : Exit → Act → World → Prop} : ∀ (p : Plan) {f : List VV} {h : Heap}, planK P T ops.toList R p f h (K .normal) →
    ∀ (σ : Sig) (a : Act) (w : World), Ok σ h w → FRel σ h.n f a.tmps → a.defers = [] → N ≤ h.n → Ok σ0 R w → (∀ i, i < R.n → σ i = σ0 i) → R.n ≤ h.n → (∀ a' w', PostN N σ h w K .normal a' w' → Q .normal a' w') →
    wpPlan P ops Q (fun w' => Ok σ0 R w') p a w := by
  have eff : ∀ (i : Nat) (p : Plan) {f : List VV} {h : Heap}, (∀ {f : List VV} {h : Heap}, planK P T ops.toList R p f h (K .normal) →
      ∀ (σ : Sig) (a : Act) (w : World), Ok σ h w → FRel σ h.n f a.tmps → a.defers = [] → N ≤ h.n → Ok σ0 R w → (∀ i, i < R.n → σ i = σ0 i) → R.n ≤ h.n → (∀ a' w', PostN N σ h w K .normal a' w' → Q .normal a' w') →
      wpPlan P ops Q (fun w' => Ok σ0 R w') p a w) → effK P T ops.toList R i f h (fun f h => planK P T ops.toList R p f h (K .normal)) →
      ∀ (σ : Sig) (a : Act) (w : World), Ok σ h w → FRel σ h.n f a.tmps → a.defers = [] → N ≤ h.n → Ok σ0 R w → (∀ i, i < R.n → σ i = σ0 i) → R.n ≤ h.n → (∀ a' w', PostN N σ h w K .normal a' w' → Q .normal a' w') →
      wpPlan P ops Q (fun w' => Ok σ0 R w') (.eff i p) a w := by
    intro i p f h ih hk σ a w k hf hd hN kR hag hRn hq
    obtain ⟨o, ho, hk⟩ := nthK_ok hk
    rw [Array.getElem?_toList] at ho
    show wpOp P ops Q i _ a w
    unfold wpOp
    rw [ho]
    rcases guardK_ok hf hk with ⟨hw, hk⟩ | ⟨hw, hk⟩
    · simp only [hw, if_true]
      refine .inl ?_
      have hs := (opK_ok hT hk).out σ a w k hf
      refine Oper.wp_mono (fun a' w' h' => ?_) (wp_mono_Q hs)
      obtain ⟨σ', h', v, u, rfl, hv, hst, hk⟩ := h'
      obtain ⟨hin, hk⟩ := inR_ok _ hk
      obtain ⟨f', hf', hd', hk⟩ := putK_ok (hf.step hst) hv hk
      have kR' : Ok σ0 R w' := by
        refine ⟨kR.nil, kR.pos, fun e he => ?_, kR.sep, fun i hi d hd => Nat.lt_of_lt_of_le (kR.lt i hi d hd) hst.size⟩
        obtain ⟨h1, h2, _⟩ := kR.obj e he
        refine ⟨h1, h2, ?_⟩
        have := (hst.ok.obj e (hin e he)).2.2
        exact this.agree h1 h2 fun i hi => by rw [hst.agree i (by omega), hag i hi]
      refine ⟨kR', ih hk σ' _ w' hst.ok hf' (by rw [hd', hd]) (Nat.le_trans hN hst.le) kR' (fun i hi => by rw [hst.agree i (by omega), hag i hi]) (Nat.le_trans hRn hst.le) fun a2 w2 p => hq _ _ (PostN.trans (hst.toN hN) p)⟩
    · simp only [hw, Bool.false_eq_true, if_false]
      obtain ⟨f', hf', hd', hk⟩ := putK_ok hf (v := .tup []) (u := undef) (.inr ⟨by simp [wf], by simp [den, denL, undef]⟩) hk
      exact ⟨kR, ih hk σ _ w k hf' (by rw [hd', hd]) hN kR hag hRn hq⟩
  intro p
  induction p with
  | done =>
    intro f h hk σ a w k hf hd hN kR hag hRn hq
    exact hq _ _ ⟨σ, f, h, hf, hd, (Step.refl k).toN hN, hk⟩
  | take i p ih =>
    intro f h hk σ a w k hf hd hN kR hag hRn hq
    obtain ⟨o, ho, hk⟩ := nthK_ok hk
    rw [Array.getElem?_toList] at ho
    rcases guardK_ok hf hk with ⟨hw, hk⟩ | ⟨hw, hk⟩
    · obtain ⟨s, he, σ', h', v, u, u', hr, hall, hput, hv, hst, hk⟩ := takeK_ok hT hk k hf kR hag hRn
      obtain ⟨f', hf', hd', hk⟩ := putK_ok (hf.step hst) (d := o.dst) hv hk
      refine ⟨o, u, ho, .inl ⟨hw, fun w' hS => by rw [he, Sem.run_bind, hall w' hS]; simp⟩, ?_⟩
      rw [hput]
      exact ih hk σ' _ w hst.ok hf' (by rw [hd', hd]) (Nat.le_trans hN hst.le) kR (fun i hi => by rw [hst.agree i (by omega), hag i hi]) (Nat.le_trans hRn hst.le) fun a2 w2 p => hq _ _ (PostN.trans (hst.toN hN) p)
    · obtain ⟨f', hf', hd', hk⟩ := putK_ok hf (d := o.dst) (v := .tup []) (u := undef) (.inr ⟨by simp [wf], by simp [den, denL, undef]⟩) hk
      exact ⟨o, undef, ho, .inr ⟨hw, rfl⟩, ih hk σ _ w k hf' (by rw [hd', hd]) hN kR hag hRn hq⟩
  | eff i p ih =>
    intro f h hk
    exact eff i p ih hk
  | eff2 i j p q ih1 ih2 =>
    intro f h hk σ a w k hf hd hN kR hag hRn hq
    exact ⟨eff i p ih1 hk.1 σ a w k hf hd hN kR hag hRn hq, eff j q ih2 hk.2 σ a w k hf hd hN kR hag hRn hq⟩
  | eff3 i j m p q r ih1 ih2 ih3 =>
    intro f h hk σ a w k hf hd hN kR hag hRn hq
    exact ⟨eff i p ih1 hk.1 σ a w k hf hd hN kR hag hRn hq, eff j q ih2 hk.2.1 σ a w k hf hd hN kR hag hRn hq, eff m r ih3 hk.2.2 σ a w k hf hd hN kR hag hRn hq⟩
def filK (ds : List Nat) : List (Nat × VObj) → (List (Nat × VObj) → Prop) → Prop
  | [], K => K []
  | e :: es, K => match ds.contains e.1 with
    | true => filK ds es K
    | false => filK ds es fun es => K (e :: es)
theorem filK_ok {ds : List Nat} : ∀ {es : List (Nat × VObj)} {K : List (Nat × VObj) → Prop}, filK ds es K → ∃ es', es'.Sublist es ∧ K es'
  | [], K, h => ⟨[], .refl _, h⟩
  | e :: es, K, h => by
    simp only [filK] at h
    split at h
    · obtain ⟨es', h1, h2⟩ := filK_ok h; exact ⟨es', h1.cons _, h2⟩
    · obtain ⟨es', h1, h2⟩ := filK_ok h; exact ⟨e :: es', h1.cons_cons _, h2⟩
/-- a region that draws: by a plan; ds: the numbers of those that are written in it -/
theorem sem_draw (hT : TOk P T) (hm : P.follows .mixedOrders = true) {id : Nat} {ops : Array Oper} {f : List VV} {h : Heap} {K : Exit → List VV → Heap → Prop} (p : Plan) (ds : List Nat) (hp : p.fits ops = true)
    (hk : filK ds h.es fun es => planK P T ops.toList ⟨h.n, es⟩ p f h (K .normal)) : SemCode P N (.region id ops true) f h K := by
  refine ⟨fun σ a w k hf hd hN => ?_⟩
  obtain ⟨es, hsub, hk⟩ := filK_ok hk
  refine wp_plan p (fun w' => Ok σ ⟨h.n, es⟩ w') hm hp (k.drop hsub).drew ?_
  refine planK_ok hT p (N := N) hk σ a w.drew k.drew hf hd hN (k.drop hsub).drew (fun _ _ => rfl) (Nat.le_refl _) fun a' w' p => ?_
  exact PostN.trans ((Step.drew k).toN hN) p
end Go.VM
