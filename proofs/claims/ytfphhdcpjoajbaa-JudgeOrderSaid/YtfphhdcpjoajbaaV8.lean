/- What the single operations do, over virtual values: literals, lengths, maps, append. -/
import Derived.Test.YtfphhdcpjoajbaaV7
import Derived.Laws.AppendOwn
namespace Go.VM
open Go.RowKit
variable {P : Program} {T : List Ty} {o : Oper} {f : List VV} {h : Heap} {K : VV → Heap → Prop}

inductive All2 {α β : Type} (R : α → β → Prop) : List α → List β → Prop
  | nil : All2 R [] []
  | cons {a : α} {b : β} {l : List α} {m : List β} (h : R a b) (t : All2 R l m) : All2 R (a :: l) (b :: m)

/-! literals -/
def partsK (f : List VV) : List (Nat × Operand) → (List (Nat × List VV) → Prop) → Prop
  | [], K => K []
  | (i, x) :: ps, K => evK f x fun v => cellsK v fun us => partsK f ps fun l => K ((i, us) :: l)
def fillK (pl : Nat → (Nat → Nat → Prop) → Prop) : List (Nat × List VV) → List VV → (List VV → Prop) → Prop
  | [], cs, K => K cs
  | (i, us) :: rest, cs, K => pl i fun off size => eqNK us.length size (putC cs off us fun cs => fillK pl rest cs K) False
theorem partsK_ok {σ : Sig} {w : World} (k : Ok σ h w) {a : Act} (hf : FRel σ h.n f a.tmps) : ∀ {ps : List (Nat × Operand)} {K : List (Nat × List VV) → Prop}, partsK f ps K →
    ∃ l : List (Nat × List VV), (All2 (fun p q => q.1 = p.1 ∧ scL h.n q.2 ∧ (a.eval p.2).cells.toList = denL σ q.2) ps l) ∧ K l
  | [], K, hk => ⟨[], .nil, hk⟩
  | (i, x) :: ps, K, hk => by
    obtain ⟨v, hv, k1⟩ := evK_ok k hf hk
    obtain ⟨us, hs, hc, k2⟩ := cellsK_ok hv k1
    obtain ⟨l, hl, k3⟩ := partsK_ok k hf k2
    exact ⟨_, .cons ⟨rfl, hs, hc⟩ hl, k3⟩
theorem foldl_put (off : Nat) : ∀ (l : List Value) (k : Nat) (c : Array Value), off + k + l.length ≤ c.size →
    ((l.zipIdx k).foldl (fun cs x => cs.setIfInBounds (off + x.2) x.1) c).toList = c.toList.take (off + k) ++ l ++ c.toList.drop (off + k + l.length)
  | [], k, c, _ => by simp
  | v :: l, k, c, h => by
    simp only [List.zipIdx_cons, List.foldl_cons]
    rw [foldl_put off l (k + 1) _ (by simp at h ⊢; omega)]
    have e1 : (c.setIfInBounds (off + k) v).toList = c.toList.set (off + k) v := by simp
    have hi' : off + k < c.toList.length := by simp at h ⊢; omega
    have e2 : off + (k + 1) = off + k + 1 := by omega
    rw [e1, e2, List.take_set_of_le_aux hi' v, List.length_cons]
    have e3 : (c.toList.set (off + k) v).drop (off + k + 1 + l.length) = c.toList.drop (off + k + (l.length + 1)) := by
      rw [List.drop_set_of_lt (by omega)]; congr 1; omega
    rw [e3]
    simp
theorem fillK_ok {σ : Sig} {n : Nat} {pl : Nat → (Nat → Nat → Prop) → Prop} {place : Nat → Option (Nat × Nat)} (hp : ∀ i K, pl i K → ∃ off size, place i = some (off, size) ∧ K off size) :
    ∀ {l : List (Nat × List VV)} {ps : List (Nat × Value)} {cs : List VV} {c : Array Value} {K : List VV → Prop}, (All2 (fun p q => q.1 = p.1 ∧ scL n q.2 ∧ p.2.cells.toList = denL σ q.2) ps l) →
    c.toList = denL σ cs → scL n cs → fillK pl l cs K → ∃ c' cs', Instr.fill place c ps = some c' ∧ c'.toList = denL σ cs' ∧ scL n cs' ∧ cs'.length = cs.length ∧ K cs'
  | [], [], cs, c, K, _, hc, hs, hk => ⟨c, cs, rfl, hc, hs, rfl, hk⟩
  | (i, us) :: l, (i', v) :: ps, cs, c, K, .cons hh hr, hc, hs, hk => by
    obtain ⟨e, hu, hv⟩ := hh
    dsimp only at e hu hv
    subst e
    obtain ⟨off, size, hpl, k1⟩ := hp _ _ hk
    obtain ⟨hsz, k2⟩ := eqNK_yes k1
    obtain ⟨hle, k3⟩ := putC_ok k2
    have hvs : v.cells.size = us.length := by rw [← Array.length_toList, hv, denL_eq, List.length_map]
    have hcs : c.size = cs.length := by rw [← Array.length_toList, hc, denL_eq, List.length_map]
    have hf : (v.cells.zipIdx.foldl (fun cs x => cs.setIfInBounds (off + x.2) x.1) c).toList = denL σ (cs.take off ++ us ++ cs.drop (off + us.length)) := by
      have := foldl_put off v.cells.toList 0 c (by simp [hvs, hcs]; omega)
      rw [← Array.foldl_toList, Array.toList_zipIdx, this, hv, hc]
      simp [denL_eq, List.map_take, List.map_drop]
    have hs' : scL n (cs.take off ++ us ++ cs.drop (off + us.length)) := by
      rw [scL_iff] at hs hu ⊢
      intro x hx
      simp only [List.append_assoc, List.mem_append] at hx
      rcases hx with hx | hx | hx
      · exact hs x (List.mem_of_mem_take hx)
      · exact hu x hx
      · exact hs x (List.mem_of_mem_drop hx)
    obtain ⟨c', cs', h1, h2, h3, h4, h5⟩ := fillK_ok hp hr hf hs' k3
    refine ⟨c', cs', ?_, h2, h3, ?_, h5⟩
    · simp only [Instr.fill, hpl]
      rw [if_neg (by simp [hvs, hcs, hsz]; omega)]
      exact h1
    · rw [h4]; simp; omega
def buildK (T : List Ty) (t : TypeId) (l : List (Nat × List VV)) (K : List VV → Prop) : Prop :=
  tyK T t fun y => match y.kind with
    | .struct fs => fillK (fun i K => nthK fs i fun ot => K ot.1 ot.2.1) l y.zero K
    | .arr _ e => tyK T e fun z => goodK z (fillK (fun i K => K (i * z.size) z.size) l y.zero K)
    | _ => False
theorem mapM_places {fs : List Field} (w : World) (h : ∀ f ∈ fs, ∃ i, P.info? f.type = some i) :
    (fs.mapM (fun f => do Pure.pure (f.offset, ← sizeOf f.type) : Field → Sem (Nat × Nat))).run P w = .ok (fs.map fun f => (f.offset, ((P.info? f.type).map (·.size)).getD 0)) w := by
  induction fs with
  | nil => simp
  | cons f fs ih =>
    obtain ⟨i, hi⟩ := h f List.mem_cons_self
    rw [List.mapM_cons, Sem.run_bind, Sem.run_bind, run_sizeOf_of hi, Result.andThen_ok]
    simp only [Sem.run_pure, Result.andThen_ok]
    rw [Sem.run_bind, ih fun g hg => h g (List.mem_cons_of_mem _ hg), Result.andThen_ok]
    simp [hi]
theorem buildK_ok {σ : Sig} {w : World} (hT : TOk P T) (k : Ok σ h w) {t : TypeId} {l : List (Nat × List VV)} {ps : List (Nat × Value)} {K : List VV → Prop}
    (hl : All2 (fun p q => q.1 = p.1 ∧ scL h.n q.2 ∧ p.2.cells.toList = denL σ q.2) ps l) (hk : buildK T t l K) :
    ∃ cs, (Instr.build t ps.toArray).run P w = .ok (den σ (.agg cs)) w ∧ scL h.n cs ∧ K cs := by
  obtain ⟨y, hy, hk⟩ := tyK_ok hk
  split at hk
  · rename_i fs hfs
    obtain ⟨i', d', z', ty⟩ := hT.get hy (by rw [hfs]; rfl)
    have e := ty.kind
    rw [hfs] at e
    obtain ⟨fields, rfl, hin, rfl⟩ := tk_struct e
    have hz := zero_den ty k.nil
    obtain ⟨c', cs', h1, h2, h3, _, h5⟩ := fillK_ok (σ := σ) (n := h.n) (place := fun i => (fields.toList.map fun f => (f.offset, ((P.info? f.type).map (·.size)).getD 0))[i]?) (fun i K hp => by
      obtain ⟨ot, hot, hp⟩ := nthK_ok hp
      rw [List.getElem?_map] at hot
      cases hfd : fields.toList[i]? with
      | none => rw [hfd] at hot; simp at hot
      | some fd =>
        rw [hfd] at hot
        simp at hot
        subst hot
        exact ⟨_, _, by rw [List.getElem?_map, hfd]; rfl, hp⟩) hl hz (ty.sc _ k.pos) hk
    refine ⟨cs', ?_, h3, h5⟩
    unfold Instr.build
    rw [Sem.run_bind, run_zeroValue ty, Result.andThen_ok]
    simp only []
    rw [Sem.run_bind, run_underlying ty.under, Result.andThen_ok]
    simp only []
    rw [Array.mapM_eq_mapM_toList, Sem.run_bind, Sem.run_map, mapM_places w (fun f hf => hin f (by simpa using hf))]
    simp only [Result.andThen_ok, List.getElem?_toArray]
    rw [h1]
    simp only [Sem.run_pure, den, ← h2, Array.toArray_toList]
  · rename_i n e he
    obtain ⟨z, hz, hk⟩ := tyK_ok hk
    obtain ⟨hg, hk⟩ := goodK_ok hk
    obtain ⟨ti, d, zv, hty⟩ := hT.get hz hg
    obtain ⟨i', d', z', ty⟩ := hT.get hy (by rw [he]; rfl)
    have e1 := ty.kind
    rw [he] at e1
    obtain rfl := tk_arr e1
    have hz := zero_den ty k.nil
    obtain ⟨c', cs', h1, h2, h3, _, h5⟩ := fillK_ok (σ := σ) (n := h.n) (place := fun i => some (i * ti.size, ti.size)) (fun i K hp => ⟨_, _, rfl, by rw [hty.size]; exact hp⟩) hl hz (ty.sc _ k.pos) hk
    refine ⟨cs', ?_, h3, h5⟩
    unfold Instr.build
    rw [Sem.run_bind, run_zeroValue ty, Result.andThen_ok]
    simp only []
    rw [Sem.run_bind, run_underlying ty.under, Result.andThen_ok]
    simp only []
    rw [Sem.run_bind, run_sizeOf_of hty.info, Result.andThen_ok]
    rw [h1]
    simp only [Sem.run_pure, den, ← h2, Array.toArray_toList]
  · exact hk.elim
theorem forall2_map {α β γ : Type} {R : α → β → Prop} {S : γ → β → Prop} {g : α → γ} (hg : ∀ a b, R a b → S (g a) b) : ∀ {l : List α} {m : List β}, All2 R l m → All2 S (l.map g) m
  | _, _, .nil => .nil
  | _, _, .cons h t => .cons (hg _ _ h) (forall2_map hg t)
theorem sem_build {t : TypeId} {ps : Array (Nat × Operand)} (hT : TOk P T) (ho : o.op = .build t ps) (hk : partsK f ps.toList fun l => buildK T t l fun cs => K (.agg cs) h) : SemOp P o f h K := by
  refine SemOp.value fun σ a w k hf => ?_
  obtain ⟨l, hl, k1⟩ := partsK_ok k hf hk
  obtain ⟨cs, hr, hs, k2⟩ := buildK_ok hT k (ps := ps.toList.map fun p => (p.1, a.eval p.2)) (forall2_map (g := fun p : Nat × Operand => (p.1, a.eval p.2)) (fun a b h => h) hl) k1
  refine ⟨_, by unfold execOp; rw [ho], ?_⟩
  refine Gives.same k (u := den σ (.agg cs)) ?_ (fit_den (by simpa [wf, wf1] using hs)) k2
  rw [← hr]
  congr 1
  congr 1
  apply Array.ext'
  simp

/-! slices written out -/
def repL (z : List VV) : Nat → List VV
  | 0 => []
  | n + 1 => z ++ repL z n
theorem repL_den (σ : Sig) (z : List VV) (hz : z ≠ []) : ∀ n, denL σ (repL z n) = (List.range (n * z.length)).map fun i => (denL σ z)[i % z.length]!
  | 0 => by simp [repL, denL]
  | n + 1 => by
    have hp : 0 < z.length := List.length_pos_iff.2 hz
    rw [repL, denL_eq, List.map_append, ← denL_eq σ (repL z n), repL_den σ z hz n, Nat.add_mul, Nat.one_mul, Nat.add_comm, List.range_add, List.map_append]
    congr 1
    · apply List.ext_getElem?
      intro i
      rw [List.getElem?_map, List.getElem?_map]
      by_cases hi : i < z.length
      · rw [List.getElem?_range hi, List.getElem?_eq_getElem hi]
        simp [Nat.mod_eq_of_lt hi, denL_eq, hi]
      · rw [List.getElem?_eq_none (by omega), List.getElem?_eq_none (by simp; omega)]; rfl
    · rw [List.map_map]
      apply List.map_congr_left
      intro i _
      simp [Nat.add_mod_left, Nat.add_mod]
theorem repL_sc {n : Nat} {z : List VV} (hz : scL n z) : ∀ m, scL n (repL z m)
  | 0 => by simp [repL, scL]
  | m + 1 => by
    rw [scL_iff] at hz ⊢
    intro v hv
    rw [repL, List.mem_append] at hv
    rcases hv with hv | hv
    · exact hz v hv
    · exact (scL_iff _ _).1 (repL_sc ((scL_iff _ _).2 hz) m) v hv
theorem sem_buildSlice {t : TypeId} {len : Nat} {ps : Array (Nat × Operand)} (hT : TOk P T) (ho : o.op = .buildSlice t len ps) (hk : partsK f ps.toList fun l => elemK T t fun kd z => match kd with
    | .slice e => match z.zero with
      | [] => False
      | _ :: _ => len * z.size ≤ 16777216 ∧ len * z.size ≠ 0 ∧ fillK (fun i K => K (i * z.size) z.size) l (repL z.zero len) fun cs => K (.sl h.n 0 len len) ⟨h.n + 1, (h.n, .row cs e cs.length) :: h.es⟩
    | _ => False) : SemOp P o f h K := by
  refine SemOp.value fun σ a w k hf => ?_
  obtain ⟨l, hl, k1⟩ := partsK_ok k hf hk
  clear hk
  obtain ⟨kd, z, hk, hkd⟩ := elemK_ok hT k1
  clear k1
  split at hk
  · rename_i e0
    split at hk
    · exact hk.elim
    · rename_i z0 zs hz0
      rcases hkd with ⟨e, ti, dd, zv, hke, hu, ty⟩ | ⟨n', e, ti, dd, zv, hke, hu, ty⟩
      · cases hke
        obtain ⟨hb, hnz, hk⟩ := hk
        have hne : z.zero ≠ [] := by rw [hz0]; simp
        have hzc := zero_den ty k.nil
        have hzs : zv.cells.size = z.size := by rw [← Array.length_toList, hzc, denL_eq, List.length_map, ty.len]
        have hc0 : ((Array.range (len * z.size)).map (zv.cells[· % zv.cells.size]!)).toList = denL σ (repL z.zero len) := by
          rw [repL_den σ z.zero hne len, ty.len]
          simp only [Array.toList_map, Array.toList_range, hzs]
          apply List.map_congr_left
          intro i _
          rw [← hzc]
          simp [getElem!_def]
        obtain ⟨c', cs', h1, h2, h3, _, h5⟩ := fillK_ok (σ := σ) (n := h.n) (place := fun i => some (i * z.size, z.size)) (fun i K hp => ⟨_, _, rfl, hp⟩) (ps := ps.toList.map fun p => (p.1, a.eval p.2))
          (forall2_map (g := fun p : Nat × Operand => (p.1, a.eval p.2)) (fun a b h => h) hl) hc0 (repL_sc (ty.sc _ k.pos) _) hk
        refine ⟨_, by unfold execOp; rw [ho], ?_⟩
        refine gives_newRow k (c := c') (t := e0) (v := .sl h.n 0 len len) (u := fun n => .slice (some ⟨n, 0, none⟩) len len) h3 h2 ?_ (by simp [den, Sig.put]) (by simp [wf, wf1, sc]) h5
        unfold Instr.buildSlice
        rw [Sem.run_bind, run_underlying hu, Result.andThen_ok]
        simp only []
        rw [Sem.run_bind, run_sizeOf_of ty.info, Result.andThen_ok, ty.size]
        have hb' : ¬ len * z.size > 2 ^ 24 := by omega
        simp only [if_neg hb', if_neg hnz]
        rw [Sem.run_bind]
        simp only [Sem.run_bind, run_zeroValue ty, Result.andThen_ok, Sem.run_pure]
        have hps : (Array.map (fun x => match x with | (i, x) => (i, a.eval x)) ps).toList = ps.toList.map fun p => (p.1, a.eval p.2) := by simp
        rw [hps, h1]
        simp [run_newRow']
      · cases hke
  · exact hk.elim

/-! maps made, lengths -/
theorem sem_makeMap {t : TypeId} (ho : o.op = .makeMap t none) (hk : K (.map h.n) ⟨h.n + 1, (h.n, .map []) :: h.es⟩) : SemOp P o f h K := by
  refine SemOp.value fun σ a w k hf => ?_
  refine ⟨_, by unfold execOp; rw [ho], _, _, _, _, _, rfl, .inr ⟨?_, ?_⟩, Step.alloc k (.map []) (.map #[] 0) (by simp [VObj.wf]) ?_, hk⟩
  · simp [wf, wf1, sc]
  · simp [den, Sig.put]
  · have e : (σ.put h.n (some w.heap.size)) h.n = some w.heap.size := by simp [Sig.put]
    simp only [OkObj, e]
    exact ⟨#[], 0, heap_alloc_new _ _, by simp⟩
end Go.VM
