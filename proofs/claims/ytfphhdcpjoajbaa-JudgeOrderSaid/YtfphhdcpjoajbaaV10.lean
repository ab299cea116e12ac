/- Calls, regions and code, over virtual values. -/
import Derived.Test.YtfphhdcpjoajbaaV9
namespace Go.VM
open Go.RowKit
variable {P : Program} {T : List Ty} {o : Oper} {f : List VV} {h : Heap} {K : VV → Heap → Prop}

def entersB (P : Program) (g : FuncId) : Bool :=
  match P.funcs[g]? with
  | some fn => fn.body.isSome && !(fn.name == "runtime.NumGoroutine")
  | none => false
theorem run_enters {g : FuncId} (he : entersB P g = true) (args : Array Value) (w : World) : (callFunc g args).run P w = .ok (.enter g args) w := by
  unfold entersB at he
  split at he
  · rename_i fn hfn
    simp only [Bool.and_eq_true, Bool.not_eq_true'] at he
    have hb : fn.body.isNone = false := by cases hb : fn.body <;> simp [hb] at he ⊢
    unfold callFunc
    rw [Sem.run_bind, run_program, Result.andThen_ok, hfn]
    simp only [he.2, hb]
    simp
  · cases he

/-- what a call comes to -/
structure Gam (P : Program) (g : FuncId) (args : List VV) (h : Heap) (K : VV → Heap → Prop) : Prop where
  enters : entersB P g = true
  calls : ∀ (σ : Sig) (w : World) (us : Array Value), Ok σ h w → us.size = args.length → (∀ (i : Nat) v u, args[i]? = some v → us[i]? = some u → FitV σ h.n v u) →
    Calls P g us w fun e w' => ∃ σ' h' v u, e = .returned u ∧ FitV σ' h'.n v u ∧ Step σ h w σ' h' w' ∧ K v h'
theorem Gam.mono {g : FuncId} {args : List VV} {K' : VV → Heap → Prop} (hk : ∀ v h, K v h → K' v h) (G : Gam P g args h K) : Gam P g args h K' :=
  ⟨G.1, fun σ w us h1 h2 h3 => (G.2 σ w us h1 h2 h3).mono fun e w' ⟨σ', h', v, u, e1, e2, e3, e4⟩ => ⟨σ', h', v, u, e1, e2, e3, hk _ _ e4⟩⟩
theorem sem_call {x : Operand} {xs : Array Operand} {ts : Array TypeId} (ho : o.op = .call { callee := .value x, args := xs, argTypes := ts }) (hk : evK f x fun v => match v with
    | .fn g caps => evsK f xs.toList fun vs => Gam P g (vs ++ caps) h K
    | _ => False) : SemOp P o f h K := by
  refine ⟨fun σ a w k hf => ?_⟩
  obtain ⟨v, hv, hk1⟩ := evK_ok k hf hk
  clear hk
  split at hk1
  · rename_i g caps
    obtain ⟨hw, he⟩ := hv.of rfl
    obtain ⟨vs, hl, hvs, G⟩ := evsK_ok k hf hk1
    simp only [den] at he
    have hcs : scL h.n caps := by simpa [wf, wf1, sc] using hw
    have hcall := G.2 σ w (xs.map a.eval ++ (denL σ caps).toArray) k (by simp [hl, denL_eq]) (by
      intro i v u hv hu
      by_cases hi : i < vs.length
      · rw [List.getElem?_append_left hi] at hv
        rw [Array.getElem?_append_left (by simp; simp at hl; omega)] at hu
        simp only [Array.getElem?_map] at hu
        cases hx : xs[i]? with
        | none => rw [hx] at hu; simp at hu
        | some x =>
          rw [hx] at hu
          simp at hu
          subst hu
          exact hvs i v x hv (by simpa using hx)
      · have hsz : (xs.map a.eval).size = vs.length := by simp [hl]
        rw [List.getElem?_append_right (by omega)] at hv
        rw [Array.getElem?_append_right (by rw [hsz]; omega), hsz] at hu
        simp only [denL_eq, List.getElem?_toArray, List.getElem?_map] at hu
        rw [hv] at hu
        simp at hu
        subst hu
        exact fit_den (wf_of_sc ((scL_iff _ _).1 hcs v (List.mem_of_getElem? hv))))
    unfold Oper.wp execOp
    rw [ho]
    simp only [resolve, he, Deferred.ofValue, Sem.run_bind, Sem.run_pure, Result.andThen_ok, invoke]
    rw [show (#[] ++ xs.map a.eval ++ (denL σ caps).toArray) = xs.map a.eval ++ (denL σ caps).toArray by simp, run_enters G.1]
    simp only [Oper.upon]
    refine hcall.mono ?_
    rintro e w' ⟨σ', h', v, u, rfl, h1, h2, h3⟩
    exact ⟨σ', h', v, u, rfl, h1, h2, h3⟩
  · exact hk1.elim

/-! ### One operation -/
def opK (P : Program) (T : List Ty) (o : Oper) (f : List VV) (h : Heap) (K : VV → Heap → Prop) : Prop :=
  match o.op with
  | .move x => evK f x fun v => K v h
  | .assign x => evK f x fun v => K v h
  | .pick c x y => evK f c fun v => match v with
    | .bool b => (match b with
      | true => evK f x fun v => K v h
      | false => evK f y fun v => K v h)
    | _ => False
  | .alloc t => tyK T t fun y => goodK y (K (.ptr h.n 0) ⟨h.n + 1, (h.n, .row y.zero t y.zero.length) :: h.es⟩)
  | .box t x => evK f x fun v => cellsK v fun cs => K (.ptr h.n 0) ⟨h.n + 1, (h.n, .row cs t cs.length) :: h.es⟩
  | .load t x => evK f x fun v => match v with
    | .ptr b off => loadK T h t b off fun v => K v h
    | _ => False
  | .store t x y => evK f x fun v => match v with
    | .ptr b off => evK f y fun u => cellsK u fun us => storeK T h t b off us fun h => K (.tup []) h
    | _ => False
  | .nilCheck x => evK f x fun v => match v with
    | .ptr b off => findK h.es b fun o => liveK o (K (.ptr b off) h)
    | .fn g cap => K (.fn g cap) h
    | _ => False
  | .fieldAddr s x i => evK f x fun v => match v with
    | .ptr b off => structK T s i fun fo sz _ => (match sz with
      | 0 => False
      | _ + 1 => findK h.es b fun o => liveK o (K (.ptr b (off + fo)) h))
    | _ => False
  | .indexAddr t x y => evK f x fun v => evK f y fun i => elemK T t fun kd z => match i, kd, v with
    | .int _ i, .slice _, .sl b off n _ => (0 ≤ i ∧ i < n) ∧ findK h.es b fun o => liveK o (K (.ptr b (off + i.toNat * z.size)) h)
    | .int _ i, .arr n _, .ptr b off => (0 ≤ i ∧ i < n) ∧ findK h.es b fun o => liveK o (K (.ptr b (off + i.toNat * z.size)) h)
    | _, _, _ => False
  | .makeFunc (.func g) ⟨[]⟩ caps => evsK f caps.toList fun vs => scL h.n vs ∧ K (.fn g vs) h
  | .extract x i => evK f x fun v => match v with
    | .tup vs => getF vs i fun v => K v h
    | _ => False
  | .binOp op t x y _ => evK f x fun v => (match v with
    | .agg _ => SemOp P o f h K
    | v => evK f y fun u => binK T op t h v u fun r => K r h)
  | .unOp op _ x => evK f x fun v => unK op v fun v => K v h
  | .field t x i => evK f x fun v => match v with
    | .agg cs => structK T t i fun fo _ ft => partK T ft cs fo fun v => K v h
    | _ => False
  | .index t x y => evK f x fun v => evK f y fun i => match i with
    | .int _ i => (match v with
      | .agg cs => tyK T t fun ty => (match ty.kind with
        | .arr n e => (0 ≤ i ∧ i < n) ∧ tyK T e fun z => partK T e cs (i.toNat * z.size) fun v => K v h
        | _ => False)
      | .str s => tyK T t fun ty => (match ty.kind with
        | .str => 0 ≤ i ∧ i.toNat < s.size ∧ ∀ c, s[i.toNat]? = some c → K (.int .u8 c.toNat) h
        | _ => False)
      | _ => False)
    | _ => False
  | .slice t x lo hi none => evK f x fun v => evO f lo fun lo => evO f hi fun hi => match v with
    | .sl b off n c => elemK T t fun kd z => (match kd with
      | .slice _ => subK b off n c z.size lo hi fun v => K v h
      | _ => False)
    | .ptr b off => elemK T t fun kd z => (match kd with
      | .arr n _ => findK h.es b fun o => liveK o (subK b off n n z.size lo hi fun v => K v h)
      | _ => False)
    | .str s => tyK T t fun ty => (match ty.kind with
      | .str => hiK s.size s.size hi fun hh => loK hh lo (K (.str (s.extract 0 hh)) h) fun l => K (.str (s.extract l hh)) h
      | _ => False)
    | _ => False
  | .build t ps => partsK f ps.toList fun l => buildK T t l fun cs => K (.agg cs) h
  | .buildSlice t len ps => (match len with
    | 0 => SemOp P o f h K
    | len + 1 => partsK f ps.toList fun l => elemK T t fun kd z => match kd with
      | .slice e => match z.zero with
        | [] => False
        | _ :: _ => (len + 1) * z.size ≤ 16777216 ∧ (len + 1) * z.size ≠ 0 ∧ fillK (fun i K => K (i * z.size) z.size) l (repL z.zero (len + 1)) fun cs => K (.sl h.n 0 (len + 1) (len + 1)) ⟨h.n + 1, (h.n, .row cs e cs.length) :: h.es⟩
      | _ => False)
  | .makeMap _ none => K (.map h.n) ⟨h.n + 1, (h.n, .map []) :: h.es⟩
  | .call c => match c.callee with
    | .value x => evK f x fun v => match v with
      | .fn g caps => evsK f c.args.toList fun vs => Gam P g (vs ++ caps) h K
      | _ => False
    | .builtin .len => (match c.args, c.argTypes with
      | ⟨[x]⟩, ⟨[t]⟩ => evK f x fun v => lenK T h t v fun v => K v h
      | _, _ => False)
    | .builtin .append => (match c.args, c.argTypes with
      | ⟨[s, x]⟩, ⟨[t, u]⟩ => evK f s fun s => evK f x fun x => tyK T u fun yu => (match yu.kind with
        | .slice _ => appendK T h t s x K
        | .str => appendK T h t s x K
        | _ => False)
      | _, _ => False)
    | _ => SemOp P o f h K
  | _ => SemOp P o f h K
theorem opK_ok (hT : TOk P T) (hk : opK P T o f h K) : SemOp P o f h K := by
  unfold opK at hk
  split at hk
  case h_1 ho => exact sem_move (.inl ho) hk
  case h_2 ho => exact sem_move (.inr ho) hk
  case h_3 ho => exact sem_pick ho hk
  case h_4 ho => exact sem_alloc hT ho hk
  case h_5 ho => exact sem_box ho hk
  case h_6 ho => exact sem_load hT ho hk
  case h_7 ho => exact sem_store hT ho hk
  case h_8 ho => exact sem_nilCheck ho hk
  case h_9 ho => exact sem_fieldAddr hT ho hk
  case h_10 ho => exact sem_indexAddr hT ho hk
  case h_11 ho => exact sem_makeFunc ho hk
  case h_12 ho => exact sem_extract ho hk
  case h_13 op t x y t' ho =>
    refine ⟨fun σ a w k hf => ?_⟩
    obtain ⟨v, hv, hk1⟩ := evK_ok k hf hk
    split at hk1
    · exact hk1.out σ a w k hf
    · obtain ⟨u, hu, hk2⟩ := evK_ok k hf hk1
      obtain ⟨r, hr, hw, hd, hk3⟩ := binK_ok hT k hv hu hk2 x y
      unfold Oper.wp execOp
      rw [ho, Sem.run_bind]
      rw [hr]
      simp only [Result.andThen_ok, Sem.run_pure, Oper.upon]
      exact ⟨σ, h, r, _, rfl, .inr ⟨hw _, (hd σ).symm⟩, Step.refl k, hk3⟩
  case h_14 ho => exact sem_unOp ho hk
  case h_15 ho => exact sem_field hT ho hk
  case h_16 ho => exact sem_index hT ho hk
  case h_17 ho => exact sem_slice hT ho hk
  case h_18 ho => exact sem_build hT ho hk
  case h_19 t len ps ho =>
    cases len with
    | zero => exact hk
    | succ len => exact sem_buildSlice hT ho hk
  case h_20 ho => exact sem_makeMap ho hk
  case h_21 c ho =>
    obtain ⟨callee, args, ats⟩ := c
    dsimp only at hk
    split at hk
    · exact sem_call ho hk
    · split at hk
      · exact sem_len hT ho hk
      · exact hk.elim
    · split at hk
      · exact sem_append hT ho hk
      · exact hk.elim
    · exact hk
  case h_22 => exact hk

/-! ### Regions -/
def putK (f : List VV) (d : Option Tmp) (v : VV) (K : List VV → Prop) : Prop :=
  match d with
  | none => K f
  | some d => setF f d v K
theorem putK_ok {σ : Sig} {n : Nat} {a : Act} (hf : FRel σ n f a.tmps) {d : Option Tmp} {v : VV} {u : Value} (hv : FitV σ n v u) {K : List VV → Prop} (hk : putK f d v K) :
    ∃ f', FRel σ n f' (a.put d u).tmps ∧ (a.put d u).defers = a.defers ∧ K f' := by
  cases d with
  | none => exact ⟨f, hf, rfl, hk⟩
  | some d => exact ⟨_, hf.put hv d, rfl, setF_iff.1 hk⟩
def guardK (ops : List Oper) (g : Option (Nat × Bool)) (f : List VV) (A B : Prop) : Prop :=
  match g with
  | none => A
  | some (j, want) => nthK ops j fun oj => match oj.dst with
    | none => B
    | some d => getF f d fun v => match v with
      | .bool b => (match want with
        | true => condK b A B
        | false => condK b B A)
      | .tup _ => B
      | _ => False
theorem guardK_ok {σ : Sig} {n : Nat} {a : Act} (hf : FRel σ n f a.tmps) {ops : Array Oper} {o : Oper} {A B : Prop} (hk : guardK ops.toList o.guard f A B) :
    (Region.wanted o (yielded ops a.tmps) = true ∧ A) ∨ (Region.wanted o (yielded ops a.tmps) = false ∧ B) := by
  unfold Region.wanted
  cases hg : o.guard with
  | none => rw [hg] at hk; exact .inl ⟨rfl, hk⟩
  | some p =>
    obtain ⟨j, want⟩ := p
    rw [hg] at hk
    obtain ⟨oj, hoj, hk⟩ := nthK_ok hk
    rw [Array.getElem?_toList] at hoj
    unfold yielded
    simp only [hoj, Option.bind_some]
    split at hk
    · rename_i hd
      rw [hd]
      exact .inr ⟨rfl, hk⟩
    · rename_i d hd
      rw [hd]
      obtain ⟨v, hv, hk⟩ := getF_ok hk
      have hlt : d < a.tmps.size := by rw [← hf.1]; exact (List.getElem?_eq_some_iff.1 hv).1
      have hfit := hf.2 d v hv
      rw [Array.getD_eq_getD_getElem?, Array.getElem?_eq_getElem hlt] at hfit
      simp only [Option.bind_some, Array.getElem?_eq_getElem hlt]
      simp only [Option.getD_some] at hfit
      split at hk
      · rename_i b
        obtain ⟨_, e⟩ := hfit.of rfl
        simp only [den] at e
        rw [e]
        cases want <;> cases b <;> simp only [condK] at hk <;> simp <;> exact hk
      · rename_i vs
        obtain ⟨_, e⟩ := hfit.of rfl
        simp only [den] at e
        rw [e]
        exact .inr ⟨by simp, hk⟩
      · exact hk.elim
def opsK (P : Program) (T : List Ty) (ops : List Oper) : List Oper → List VV → Heap → (List VV → Heap → Prop) → Prop
  | [], f, h, K => K f h
  | o :: rest, f, h, K => guardK ops o.guard f (opK P T o f h fun v h => putK f o.dst v fun f => opsK P T ops rest f h K) (putK f o.dst (.tup []) fun f => opsK P T ops rest f h K)

/-- from a world on which h describes, whatever may be known behind it; what stood below N stands for what it stood for -/
structure StepN (N : Nat) (σ : Sig) (h : Heap) (w : World) (σ' : Sig) (h' : Heap) (w' : World) : Prop where
  agree : ∀ i, i < N → σ' i = σ i
  le : N ≤ h'.n
  ok : Ok σ' h' w'
  os : w'.os = w.os
  tape : w'.tape = w.tape
  output : w'.output = w.output
  size : w.heap.size ≤ w'.heap.size
  frame : ∀ b, b < w.heap.size → ¬ OwnedB σ h b → w'.heap[b]? = w.heap[b]?
  owned : ∀ b, b < w.heap.size → OwnedB σ' h' b → OwnedB σ h b
theorem Step.toN {N : Nat} {σ σ' : Sig} {h h' : Heap} {w w' : World} (s : Step σ h w σ' h' w') (hN : N ≤ h.n) : StepN N σ h w σ' h' w' :=
  ⟨fun i hi => s.agree i (by omega), Nat.le_trans hN s.le, s.ok, s.os, s.tape, s.output, s.size, s.frame, s.owned⟩
theorem StepN.trans {N : Nat} {σ σ' σ'' : Sig} {h h' h'' : Heap} {w w' w'' : World} (a : StepN N σ h w σ' h' w') (b : StepN N σ' h' w' σ'' h'' w'') : StepN N σ h w σ'' h'' w'' where
  agree := fun i hi => (b.agree i hi).trans (a.agree i hi)
  le := b.le
  ok := b.ok
  os := b.os.trans a.os
  tape := b.tape.trans a.tape
  output := b.output.trans a.output
  size := Nat.le_trans a.size b.size
  frame := fun i hi ho => (b.frame i (Nat.lt_of_lt_of_le hi a.size) (fun k => ho (a.owned i hi k))).trans (a.frame i hi ho)
  owned := fun i hi ho => a.owned i hi (b.owned i (Nat.lt_of_lt_of_le hi a.size) ho)

/-- what a post says over the real -/
def PostN (N : Nat) (σ : Sig) (h : Heap) (w : World) (K : Exit → List VV → Heap → Prop) : Exit → Act → World → Prop := fun e a' w' =>
  ∃ σ' f' h', FRel σ' h'.n f' a'.tmps ∧ a'.defers = [] ∧ StepN N σ h w σ' h' w' ∧ K e f' h'
structure SemCode (P : Program) (N : Nat) (c : Code) (f : List VV) (h : Heap) (K : Exit → List VV → Heap → Prop) : Prop where
  out : ∀ (σ : Sig) (a : Act) (w : World), Ok σ h w → FRel σ h.n f a.tmps → a.defers = [] → N ≤ h.n → c.wp P (PostN N σ h w K) a w
theorem wp_mono_Q {o : Oper} {a : Act} {w : World} {K : Act → World → Prop} {Q : Exit → Act → World → Prop} (hh : o.wp P a w K NoQ) : o.wp P a w K Q := by
  unfold Oper.wp at *
  generalize (execOp a.eval o).run P w = r at *
  cases r with
  | ok n w' =>
    cases n <;> simp only [Oper.upon] at hh ⊢ <;>
      first
        | exact hh
        | exact Calls.mono hh (fun e w'' he => by cases e <;> first | exact he | exact False.elim he | (obtain ⟨_, _, h0⟩ := he; exact False.elim h0))
        | exact Rows.mono hh (fun _ _ he => he)
  | halt x w' => cases x <;> simp only [Oper.upon, NoQ] at hh ⊢
theorem opsK_ok (hT : TOk P T) {N : Nat} {ops : Array Oper} {K : Exit → List VV → Heap → Prop} {Q : Exit → Act → World → Prop} : ∀ {l : List Oper} {f : List VV} {h : Heap}, opsK P T ops.toList l f h (K .normal) →
    ∀ (σ : Sig) (a : Act) (w : World), Ok σ h w → FRel σ h.n f a.tmps → a.defers = [] → N ≤ h.n → (∀ e a' w', PostN N σ h w K e a' w' → Q e a' w') → wpList P ops Q l a w
  | [], f, h, hk, σ, a, w, k, hf, hd, hN, hq => hq _ _ _ ⟨σ, f, h, hf, hd, (Step.refl k).toN hN, hk⟩
  | o :: rest, f, h, hk, σ, a, w, k, hf, hd, hN, hq => by
    simp only [opsK] at hk
    unfold wpList
    rcases guardK_ok hf hk with ⟨hw, hk⟩ | ⟨hw, hk⟩
    · rw [if_pos hw]
      refine .inl ?_
      have hs := (opK_ok hT hk).out σ a w k hf
      refine Oper.wp_mono (fun a' w' h' => ?_) (wp_mono_Q hs)
      obtain ⟨σ', h', v, u, rfl, hv, hst, hk⟩ := h'
      obtain ⟨f', hf', hd', hk⟩ := putK_ok (hf.step hst) hv hk
      exact opsK_ok hT hk σ' _ w' hst.ok hf' (by rw [hd', hd]) (Nat.le_trans hN hst.le) fun e a2 w2 ⟨σ2, f2, h2, q1, q2, q3, q4⟩ => hq _ _ _ ⟨σ2, f2, h2, q1, q2, (hst.toN hN).trans q3, q4⟩
    · rw [if_neg (by simp [hw])]
      obtain ⟨f', hf', hd', hk⟩ := putK_ok hf (v := .tup []) (u := undef) (.inr ⟨by simp [wf], by simp [den, denL, undef]⟩) hk
      exact opsK_ok hT hk σ _ w k hf' (by rw [hd', hd]) hN hq
end Go.VM
