/- A call, seen from one who knows more than the callee asks for. -/
import Derived.Test.YtfphhdcpjoajbaaV11
namespace Go.VM
open Go.RowKit
variable {P : Program} {T : List Ty} {N : Nat}

/-- the callee's numbers: 0 is 0, i + 1 is l's i-th; what it makes comes behind all -/
def calT (l : List Nat) (hn Hn : Nat) : Nat → Nat := fun i =>
  match i with
  | 0 => 0
  | i + 1 => if i + 1 < hn then l.getD i 0 else Hn + (i + 1 - hn)
def ownIds (l : List Nat) (hn Hn : Nat) (es : List (Nat × VObj)) : List Nat := (es.filter fun e => e.2.owned).map fun e => calT l hn Hn e.1
def remEs (ids : List Nat) (es : List (Nat × VObj)) : List (Nat × VObj) := es.filter fun e => !(ids.contains e.1)
def renEs (θ : Nat → Nat) (es : List (Nat × VObj)) : List (Nat × VObj) := (es.filter fun e => e.2.owned).map fun e => (θ e.1, e.2.ren θ)
def wfArgs (n : Nat) : List VV → Prop
  | [] => True
  | v :: vs => (v = .any ∨ wf n v) ∧ wfArgs n vs
theorem wfArgs_at {n : Nat} : ∀ {vs : List VV}, wfArgs n vs → ∀ (i : Nat) v, vs[i]? = some v → v = .any ∨ wf n v
  | [], _, i, v, h => by simp at h
  | u :: vs, hw, 0, v, h => by simp at h; subst h; exact hw.1
  | u :: vs, hw, i + 1, v, h => wfArgs_at hw.2 i v (by simpa using h)

theorem call_rule {g : FuncId} {H : Heap} {args : List VV} {K : VV → Heap → Prop} (l : List Nat) {h : Heap} {args0 : List VV} (hn : h.n = l.length + 1) (hargs : args = renL (calT l h.n H.n) args0) (hwa : wfArgs h.n args0)
    (hl : ∀ x ∈ l, x < H.n) (hes : EsR (calT l h.n H.n) h.n H.es h.es) (hap : Apart (calT l h.n H.n) h.es)
    (G : Gam P g args0 h fun r h' => ∀ r2 n2 es2, r2 = ren (calT l h.n H.n) r → n2 = H.n + (h'.n - h.n) → es2 = renEs (calT l h.n H.n) h'.es ++ remEs (ownIds l h.n H.n h.es) H.es → K r2 ⟨n2, es2⟩) :
    Gam P g args H K := by
  refine ⟨G.1, fun σ w us k hus hfit => ?_⟩
  have hp := k.pos
  -- the callee's numbers
  have t0 : calT l h.n H.n 0 = 0 := rfl
  have tlt : ∀ i, i < h.n → calT l h.n H.n i < H.n := by
    intro i hi
    cases i with
    | zero => exact hp
    | succ i =>
      simp only [calT, if_pos hi]
      cases hx : l[i]? with
      | none => rw [List.getElem?_eq_none_iff] at hx; omega
      | some x => rw [List.getD_eq_getElem?_getD, hx]; exact hl x (List.mem_of_getElem? hx)
  have tge : ∀ i, h.n ≤ i → calT l h.n H.n i = H.n + (i - h.n) := by
    intro i hi
    cases i with
    | zero => omega
    | succ i => simp only [calT, if_neg (show ¬ i + 1 < h.n by omega)]
  have kc := k.ren (h' := h) (θ := calT l h.n H.n) t0 (by omega) tlt hes hap
  have hcal := G.2 _ w us kc (by rw [hus, hargs, renL_eq, List.length_map]) (fun i v u hv hu => by
    have hv' : args[i]? = some (ren (calT l h.n H.n) v) := by rw [hargs, renL_eq, List.getElem?_map, hv]; rfl
    rcases wfArgs_at hwa i v hv with rfl | hw
    · exact .inl rfl
    · exact fit_ren (hfit i _ u hv' hu) hw)
  refine hcal.mono ?_
  rintro e w' ⟨σ', h', r, u, rfl, hr, st, hK⟩
  obtain ⟨τ, hτ⟩ : ∃ τ : Sig, τ = fun i => if i < H.n then σ i else σ' (i - H.n + h.n) := ⟨_, rfl⟩
  have hlo : ∀ i, i < H.n → τ i = σ i := fun i hi => by rw [hτ]; simp [hi]
  have hth : ∀ i, i < h'.n → τ (calT l h.n H.n i) = σ' i := by
    intro i hi
    by_cases hi' : i < h.n
    · rw [hlo _ (tlt i hi')]
      have := st.agree i hi'
      rw [this, if_pos hi']
    · rw [tge i (by omega), hτ]
      simp only [show ¬ H.n + (i - h.n) < H.n by omega, if_false]
      congr 1; omega
  have tlt' : ∀ i, i < h'.n → calT l h.n H.n i < H.n + (h'.n - h.n) := by
    intro i hi
    by_cases hi' : i < h.n
    · have := tlt i hi'; omega
    · rw [tge i (by omega)]; omega
  refine ⟨τ, ⟨H.n + (h'.n - h.n), renEs (calT l h.n H.n) h'.es ++ remEs (ownIds l h.n H.n h.es) H.es⟩, ren (calT l h.n H.n) r, u, rfl, ?_, ?_, hK _ _ _ rfl rfl rfl⟩
  · rcases hr with rfl | ⟨hw, rfl⟩
    · exact .inl rfl
    · refine .inr ⟨wf_ren tlt' r hw, ?_⟩
      rw [den_ren]
      exact (den_agree (fun i hi => hth i hi) r hw).symm
  -- a remaining entry's block is none of those that the callee owned
  have hrem : ∀ e ∈ remEs (ownIds l h.n H.n h.es) H.es, e ∈ H.es ∧ ∀ d, σ e.1 = some d → ¬ OwnedB (fun i => if i < h.n then σ (calT l h.n H.n i) else none) h d := by
    intro e he
    simp only [remEs, List.mem_filter, Bool.not_eq_true', List.contains_eq_mem, decide_eq_false_iff_not] at he
    obtain ⟨he, hne⟩ := he
    refine ⟨he, fun d hd hb => ?_⟩
    obtain ⟨c, hc, hown, hcd⟩ := hb
    obtain ⟨h1, h2, o, ho, hcov⟩ := hes.mem c hc
    dsimp only at hcd
    rw [if_pos h1] at hcd
    have hoo : o.owned = true := hcov.2 (by rw [VObj.owned_ren]; exact hown)
    have hid : e.1 ≠ calT l h.n H.n c.1 := fun e1 => hne (by rw [e1]; exact List.mem_map.2 ⟨c, List.mem_filter.2 ⟨hc, hown⟩, rfl⟩)
    obtain ⟨i, hi, hi'⟩ := List.mem_iff_getElem.1 he
    obtain ⟨j, hj, hj'⟩ := List.mem_iff_getElem.1 ho
    rcases Nat.lt_trichotomy i j with hij | rfl | hij
    · have := List.pairwise_iff_getElem.1 k.sep i j hi hj hij d (by rw [hi']; exact hd) (by rw [hj']; exact hcd)
      rw [hj'] at this; rw [hoo] at this; simp at this
    · rw [hi'] at hj'
      exact hid (by rw [hj'])
    · have := List.pairwise_iff_getElem.1 k.sep j i hj hi hij d (by rw [hj']; exact hcd) (by rw [hi']; exact hd)
      rw [hj'] at this; rw [hoo] at this; simp at this
  have hsub : (remEs (ownIds l h.n H.n h.es) H.es).Sublist H.es := List.filter_sublist
  have hnew : ∀ e ∈ renEs (calT l h.n H.n) h'.es, ∃ c ∈ h'.es, c.2.owned = true ∧ e = (calT l h.n H.n c.1, c.2.ren (calT l h.n H.n)) := by
    intro e he
    obtain ⟨c, hc, rfl⟩ := List.mem_map.1 he
    obtain ⟨h1, h2⟩ := List.mem_filter.1 hc
    exact ⟨c, h1, h2, rfl⟩
  refine ⟨hlo, Nat.le_add_right _ _, ⟨?_, Nat.le_trans hp (Nat.le_add_right _ _), ?_, ?_, ?_⟩, st.os, st.tape, st.output, st.size, ?_, ?_⟩
  · rw [hlo 0 hp]; exact k.nil
  · intro e he
    rcases List.mem_append.1 he with he | he
    · obtain ⟨c, hc, hown, rfl⟩ := hnew e he
      obtain ⟨h1, h2, h3⟩ := st.ok.obj c hc
      refine ⟨tlt' _ h1, VObj.wf_ren tlt' h2, ?_⟩
      rw [OkObj.ren]
      exact h3.agree h1 h2 fun i hi => hth i hi
    · obtain ⟨hm, hb⟩ := hrem e he
      obtain ⟨h1, h2, h3⟩ := k.obj e hm
      refine ⟨by dsimp only; omega, VObj.wf_mono (by dsimp only; omega) h2, (h3.agree h1 h2 hlo).stay fun d hd => ?_⟩
      rw [hlo _ h1] at hd
      exact st.frame d (k.lt _ h1 d hd) (hb d hd)
  · rw [List.pairwise_append]
    refine ⟨?_, (k.sep.sublist hsub).imp_of_mem fun {e e'} he he' hs d hd hd' => ?_, fun e he e' he' d hd hd' => ?_⟩
    · rw [renEs, List.pairwise_map]
      refine (st.ok.sep.sublist List.filter_sublist).imp_of_mem fun {c c'} hc hc' hs d hd hd' => ?_
      have h1 := (st.ok.obj c (List.mem_filter.1 hc).1).1
      have h2 := (st.ok.obj c' (List.mem_filter.1 hc').1).1
      dsimp only at hd hd'
      rw [hth _ h1] at hd
      rw [hth _ h2] at hd'
      have := hs d hd hd'
      simpa [VObj.owned_ren] using this
    · rw [hlo _ (k.obj e (hsub.subset he)).1] at hd
      rw [hlo _ (k.obj e' (hsub.subset he')).1] at hd'
      exact hs d hd hd'
    · obtain ⟨c, hc, hown, rfl⟩ := hnew e he
      obtain ⟨hm, hb⟩ := hrem e' he'
      have h1 := (k.obj e' hm).1
      rw [hlo _ h1] at hd'
      dsimp only at hd
      rw [hth _ (st.ok.obj c hc).1] at hd
      exact absurd (st.owned d (k.lt _ h1 d hd') ⟨c, hc, hown, hd⟩) (hb d hd')
  · intro i hi d hd
    dsimp only at hi
    by_cases hi' : i < H.n
    · rw [hlo i hi'] at hd
      exact Nat.lt_of_lt_of_le (k.lt i hi' d hd) st.size
    · rw [hτ] at hd
      simp only [hi', if_false] at hd
      exact st.ok.lt _ (by omega) d hd
  · intro b hb hno
    exact st.frame b hb fun ho => hno (OwnedB.ren hes ho)
  · rintro b hb ⟨e, he, hown, hd⟩
    rcases List.mem_append.1 he with he | he
    · obtain ⟨c, hc, ho, rfl⟩ := hnew e he
      dsimp only at hd
      rw [hth _ (st.ok.obj c hc).1] at hd
      exact OwnedB.ren hes (st.owned b hb ⟨c, hc, ho, hd⟩)
    · have hm := hsub.subset he
      rw [hlo _ (k.obj e hm).1] at hd
      exact ⟨e, hm, hown, hd⟩

/-! ### Loops -/
theorem wp_loopX {X : Type} {c : Code} {Q : Exit → Act → World → Prop} (J : X → Act → World → Prop) (μ : X → Nat) {x0 : X} {a : Act} {w : World} (h₀ : J x0 a w)
    (round : ∀ x a w, J x a w → c.wp P (Exit.then (fun a' w' => ∃ x', J x' a' w' ∧ μ x' < μ x) Q) a w) : (Code.loop c).wp P Q a w := by
  intro b k cs
  have key : ∀ n x a w, μ x = n → J x a w →
      ∃ e a' w', Q e a' w' ∧ Arrives P (lone (b.at a (.code c :: .inLoop c :: k)) cs w) b k cs e a' w' := by
    intro n
    induction n using Nat.strongRecOn with
    | _ n ih =>
      intro x a w hn hI
      obtain ⟨e, a₁, w₁, hq, harr⟩ := round x a w hI b (.inLoop c :: k) cs
      cases e with
      | normal =>
        obtain ⟨x', hI₁, hlt⟩ := hq
        obtain ⟨e₂, a₂, w₂, hq₂, harr₂⟩ := ih (μ x') (hn ▸ hlt) x' a₁ w₁ rfl hI₁
        exact ⟨e₂, a₂, w₂, hq₂, .of_steps (Steps.trans harr (.one step_inLoop)) harr₂⟩
      | exit id => exact ⟨_, a₁, w₁, hq, .pass (x := .inLoop c) rfl (fun _ _ => .inl (by simp)) harr⟩
      | goto l => exact ⟨_, a₁, w₁, hq, .pass (x := .inLoop c) rfl (fun _ _ => .inl (by simp)) harr⟩
      | ret => exact ⟨_, a₁, w₁, hq, .pass (x := .inLoop c) rfl (fun _ _ => .inl (by simp)) harr⟩
      | panic ch => exact ⟨_, a₁, w₁, hq, .pass (x := .inLoop c) rfl (fun _ _ => .inl (by simp)) harr⟩
      | outgrown => exact ⟨_, a₁, w₁, hq, .pass (x := .inLoop c) rfl (fun _ _ => .inl (by simp)) harr⟩
  obtain ⟨e, a', w', hq, harr⟩ := key _ x0 a w rfl h₀
  exact ⟨e, a', w', hq, .of_steps (.one step_loop) harr⟩

/-- the frame, told by other numbers; what is 'any' is not told -/
def FrR (θ : Nat → Nat) (n : Nat) : List VV → List VV → Prop
  | [], [] => True
  | _ :: f, .any :: g => FrR θ n f g
  | v :: f, u :: g => (v = ren θ u ∧ wf n u) ∧ FrR θ n f g
  | _, _ => False
theorem FrR.len {θ : Nat → Nat} {n : Nat} : ∀ {f g : List VV}, FrR θ n f g → f.length = g.length
  | [], [], _ => rfl
  | [], v :: _, h => by simp [FrR] at h
  | _ :: _, [], h => by simp [FrR] at h
  | v :: f, u :: g, h => by
    have : FrR θ n f g := by cases u <;> simp only [FrR] at h <;> first | exact h | exact h.2
    simp [FrR.len this]
theorem FrR.at {θ : Nat → Nat} {n : Nat} : ∀ {f g : List VV}, FrR θ n f g → ∀ (i : Nat) u, g[i]? = some u → u = .any ∨ (f[i]? = some (ren θ u) ∧ wf n u)
  | [], [], _, i, u, hu => by simp at hu
  | [], v :: _, h, _, _, _ => by simp [FrR] at h
  | _ :: _, [], h, _, _, _ => by simp [FrR] at h
  | v :: f, x :: g, h, 0, u, hu => by
    simp at hu; subst hu
    cases x <;> simp only [FrR] at h <;> first | exact .inl rfl | exact .inr ⟨by simp [h.1.1], h.1.2⟩
  | v :: f, x :: g, h, i + 1, u, hu => by
    have : FrR θ n f g := by cases x <;> simp only [FrR] at h <;> first | exact h | exact h.2
    simpa using FrR.at this i u (by simpa using hu)
/-- a state told by other numbers: those below N stay -/
def StR (N : Nat) (f : List VV) (h : Heap) (s : List VV × Heap) : Prop :=
  ∃ l : List Nat, s.2.n = N + l.length ∧ (∀ x ∈ l, x < h.n) ∧ FrR (thet N l) s.2.n f s.1 ∧ EsR (thet N l) s.2.n h.es s.2.es ∧ Apart (thet N l) s.2.es
theorem StR.ok {σ σ' : Sig} {h h' : Heap} {w w' : World} {f : List VV} {t : Array Value} {s : List VV × Heap} (st : StepN N σ h w σ' h' w') (hf : FRel σ' h'.n f t) (hN : 1 ≤ N) (r : StR N f h' s) :
    ∃ σ'', StepN N σ h w σ'' s.2 w' ∧ FRel σ'' s.2.n s.1 t := by
  obtain ⟨l, e1, e2, e3, e4, e5⟩ := r
  have hlt : ∀ i, i < s.2.n → thet N l i < h'.n := fun i hi => by
    unfold thet
    split
    · have := st.le; omega
    · cases hx : l[i - N]? with
      | none => rw [List.getElem?_eq_none_iff] at hx; omega
      | some x => rw [List.getD_eq_getElem?_getD, hx]; exact e2 x (List.mem_of_getElem? hx)
  refine ⟨_, st.ren (θ := thet N l) (by unfold thet; rw [if_pos (show 0 < N from hN)]) (by omega) (by omega) (fun i hi => by unfold thet; rw [if_pos hi]) hlt e4 e5, by rw [← e3.len]; exact hf.1, fun i u hu => ?_⟩
  rcases e3.at i u hu with rfl | ⟨h1, h2⟩
  · exact .inl rfl
  · exact fit_ren (hf.2 i _ h1) h2
def loopE {X : Type} (N : Nat) (st : X → List VV × Heap) (I : X → Prop) (μ : X → Nat) (x : X) (K : Exit → List VV → Heap → Prop) : Exit → List VV → Heap → Prop
  | .normal, f, h => ∃ x', I x' ∧ μ x' < μ x ∧ StR N f h (st x')
  | e, f, h => K e f h
theorem sem_loop (hT : TOk P T) (hN : 1 ≤ N) {c : Code} {f : List VV} {h : Heap} {K : Exit → List VV → Heap → Prop} {X : Type} (st : X → List VV × Heap) (I : X → Prop) (μ : X → Nat) (x0 : X) (h0 : I x0) (hs : StR N f h (st x0))
    (round : ∀ x, I x → codeK P T N c (st x).1 (st x).2 (loopE N st I μ x K)) : SemCode P N (.loop c) f h K := by
  refine ⟨fun σ a w k hf hd hNh => ?_⟩
  refine wp_loopX (fun x a' w' => I x ∧ a'.defers = [] ∧ ∃ σ', StepN N σ h w σ' (st x).2 w' ∧ FRel σ' (st x).2.n (st x).1 a'.tmps) μ (x0 := x0) ?_ ?_
  · obtain ⟨σ', h1, h2⟩ := hs.ok ((Step.refl k).toN hNh) hf hN
    exact ⟨h0, hd, σ', h1, h2⟩
  · rintro x a' w' ⟨hI, hd', σ', h1, h2⟩
    refine Code.wp_mono (fun e a2 w2 p => ?_) ((codeK_ok hT (round x hI)).out σ' a' w' h1.ok h2 hd' h1.le)
    obtain ⟨σ2, f2, h2', q1, q2, q3, q4⟩ := p
    cases e with
    | normal =>
      obtain ⟨x', hI', hlt, hs'⟩ := q4
      obtain ⟨σ3, s1, s2⟩ := hs'.ok q3 q1 hN
      exact ⟨x', ⟨hI', q2, σ3, h1.trans s1, s2⟩, hlt⟩
    | exit id => exact ⟨σ2, f2, h2', q1, q2, h1.trans q3, q4⟩
    | goto l => exact ⟨σ2, f2, h2', q1, q2, h1.trans q3, q4⟩
    | ret => exact ⟨σ2, f2, h2', q1, q2, h1.trans q3, q4⟩
    | panic ch => exact ⟨σ2, f2, h2', q1, q2, h1.trans q3, q4⟩
    | outgrown => exact ⟨σ2, f2, h2', q1, q2, h1.trans q3, q4⟩
/-- from a state told otherwise one may go on -/
theorem sem_cut (hT : TOk P T) (hN : 1 ≤ N) {c : Code} {f : List VV} {h : Heap} {K : Exit → List VV → Heap → Prop} {s : List VV × Heap} (hs : StR N f h s) (hk : codeK P T N c s.1 s.2 K) : SemCode P N c f h K := by
  refine ⟨fun σ a w k hf hd hNh => ?_⟩
  obtain ⟨σ', h1, h2⟩ := hs.ok ((Step.refl k).toN hNh) hf hN
  exact Code.wp_mono (fun e a2 w2 p => PostN.trans h1 p) ((codeK_ok hT hk).out σ' a w h1.ok h2 hd h1.le)

/-! ### The steps of a walk: what goes on behind is kept under a name -/
section
variable {f : List VV} {h : Heap} {K : Exit → List VV → Heap → Prop} {a b : Code} {id : Nat} {ops : Array Oper}
theorem c_seq (k : codeK P T N a f h (seqE K fun f h => codeK P T N b f h K)) : codeK P T N (.seq a b) f h K := k
theorem c_region (k : ∀ K' : List VV → Heap → Prop, (∀ f h, K .normal f h → K' f h) → opsK P T ops.toList ops.toList f h K') : codeK P T N (.region id ops false) f h K := k _ fun _ _ h => h
theorem c_block (k : codeK P T N a f h (blockE id K)) : codeK P T N (.block id a) f h K := k
theorem c_skip (k : K .normal f h) : codeK P T N .skip f h K := k
theorem c_ret (k : K .ret f h) : codeK P T N .ret f h K := k
theorem c_exit (k : K (.exit id) f h) : codeK P T N (.exit id) f h K := k
theorem c_loop (k : SemCode P N (.loop a) f h K) : codeK P T N (.loop a) f h K := k
theorem c_draw (k : SemCode P N (.region id ops true) f h K) : codeK P T N (.region id ops true) f h K := k
theorem c_cond {c : Operand} {t : Bool} (hc : evK f c fun v => v = .bool t) (h1 : t = true → codeK P T N a f h K) (h2 : t = false → codeK P T N b f h K) : codeK P T N (.cond c a b) f h K := by
  have key : ∀ v : VV, v = .bool t → (match v with
    | .bool t => condK t (codeK P T N a f h K) (codeK P T N b f h K)
    | _ => False) := by
    rintro v rfl
    cases t
    · exact h2 rfl
    · exact h1 rfl
  cases c with
  | tmp x =>
    obtain ⟨v, hv, e⟩ := getF_ok hc
    exact getF_of hv (key v e)
  | const v => exact key _ hc
  | func g => exact key _ hc
  | global g => exact hc.elim
theorem e_seq {B : List VV → Heap → Prop} (k : B f h) : seqE K B .normal f h := k
theorem e_seq_ret {B : List VV → Heap → Prop} (k : K .ret f h) : seqE K B .ret f h := k
theorem e_seq_exit {B : List VV → Heap → Prop} {i : Nat} (k : K (.exit i) f h) : seqE K B (.exit i) f h := k
theorem e_block {i : Nat} (k : K .normal f h) : blockE i K .normal f h := k
theorem e_block_ret {i : Nat} (k : K .ret f h) : blockE i K .ret f h := k
theorem e_block_exit {i : Nat} (k : K .normal f h) : blockE i K (.exit i) f h := by simp only [blockE, eqNK]; simp; exact k
theorem e_block_other {i j : Nat} (hne : Nat.beq j i = false) (k : K (.exit j) f h) : blockE i K (.exit j) f h := by simp only [blockE, eqNK, hne]; exact k
end
end Go.VM
