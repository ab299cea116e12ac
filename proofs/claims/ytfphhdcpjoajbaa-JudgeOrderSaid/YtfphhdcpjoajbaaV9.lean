/- What the single operations do, over virtual values: append, lengths, look-ups, conversions. -/
import Derived.Test.YtfphhdcpjoajbaaV8
namespace Go.VM
open Go.RowKit
variable {P : Program} {T : List Ty} {o : Oper} {f : List VV} {h : Heap} {K : VV → Heap → Prop}

theorem exec_builtin1 {ρ : Operand → Value} {o : Oper} {bt : Builtin} {xs : Array Operand} {ts : Array TypeId} (ho : o.op = .call { callee := .builtin bt, args := xs, argTypes := ts }) :
    execOp ρ o = (do invoke (.builtin bt ts o.type (xs.map fun | .const _ => true | _ => false)) (xs.map ρ)) := by
  unfold execOp
  rw [ho]
  simp [resolve]
  rfl

/-! len -/
def lenK (T : List Ty) (h : Heap) (t : TypeId) (v : VV) (K : VV → Prop) : Prop :=
  match v with
  | .sl _ _ n _ => tyK T t fun y => (match y.kind with
    | .slice _ => K (.int .i64 n)
    | _ => False)
  | .str s => tyK T t fun y => (match y.kind with
    | .str => K (.int .i64 s.size)
    | _ => False)
  | .agg _ => tyK T t fun y => (match y.kind with
    | .arr n _ => K (.int .i64 n)
    | _ => False)
  | .map b => tyK T t fun y => (match y.kind with
    | .map _ _ => (match b with
      | 0 => K (.int .i64 0)
      | b + 1 => findK h.es (b + 1) fun o => (match o with
        | .map es => K (.int .i64 es.length)
        | _ => False))
    | _ => False)
  | _ => False
theorem sem_len {x : Operand} {t : TypeId} (hT : TOk P T) (ho : o.op = .call { callee := .builtin .len, args := #[x], argTypes := #[t] }) (hk : evK f x fun v => lenK T h t v fun v => K v h) : SemOp P o f h K := by
  refine SemOp.value fun σ a w k hf => ?_
  obtain ⟨v, hv, hk1⟩ := evK_ok k hf hk
  clear hk
  refine ⟨Builtin.len_ #[t] o.type #[a.eval x], ?_, ?_⟩
  · rw [exec_builtin1 ho]; simp [invoke, builtin]
  · unfold lenK at hk1
    unfold Builtin.len_
    split at hk1
    · obtain ⟨hw, he⟩ := hv.of rfl
      simp only [den] at he; rw [he]
      obtain ⟨y, hy, hk⟩ := tyK_ok hk1
      split at hk
      · rename_i hkd
        obtain ⟨d, hd, hdk⟩ := under_kind hT hy (by rw [hkd]; rfl)
        rw [hkd] at hdk
        obtain rfl := tk_slice hdk
        exact Gives.same k (by simp [run_underlying hd, goInt]) (fit_int _ _) hk
      · exact hk.elim
    · obtain ⟨hw, he⟩ := hv.of rfl
      simp only [den] at he; rw [he]
      obtain ⟨y, hy, hk⟩ := tyK_ok hk1
      split at hk
      · rename_i hkd
        obtain ⟨d, hd, hdk⟩ := under_kind hT hy (by rw [hkd]; rfl)
        rw [hkd] at hdk
        obtain rfl := tk_str hdk
        exact Gives.same k (by simp [run_underlying hd, goInt]) (fit_int _ _) hk
      · exact hk.elim
    · obtain ⟨hw, he⟩ := hv.of rfl
      simp only [den] at he; rw [he]
      obtain ⟨y, hy, hk⟩ := tyK_ok hk1
      split at hk
      · rename_i hkd
        obtain ⟨d, hd, hdk⟩ := under_kind hT hy (by rw [hkd]; rfl)
        rw [hkd] at hdk
        obtain rfl := tk_arr hdk
        exact Gives.same k (by simp [run_underlying hd, goInt]) (fit_int _ _) hk
      · exact hk.elim
    · obtain ⟨hw, he⟩ := hv.of rfl
      simp only [den] at he; rw [he]
      obtain ⟨y, hy, hk⟩ := tyK_ok hk1
      split at hk
      · rename_i hkd
        obtain ⟨d, hd, hdk⟩ := under_kind hT hy (by rw [hkd]; rfl)
        rw [hkd] at hdk
        obtain rfl := tk_map hdk
        split at hk
        · rw [k.nil]
          exact Gives.same k (by simp [run_underlying hd, goInt]) (fit_int _ _) hk
        · obtain ⟨ob, hob, hk⟩ := findK_ok hk
          split at hk
          · have hok := (k.obj _ hob).2.2
            simp only [OkObj] at hok
            split at hok
            · rename_i dd hdd
              obtain ⟨ents, clock, h1, h2⟩ := hok
              rw [hdd]
              have hl := congrArg List.length h2
              simp at hl
              refine Gives.same k (u := .int .i64 ents.size) ?_ (by rw [hl]; exact fit_int _ _) hk
              simp [run_underlying hd, goInt, getObj, Sem.run, h1]
            · exact hok.elim
          · exact hk.elim
      · exact hk.elim
    · exact hk1.elim

/-! append -/
set_option maxHeartbeats 800000 in
theorem run_append_fit {t u ty e : TypeId} {i : TypeInfo} (ht : P.underlying t = some (.slice e)) (hi : P.info? e = some i) (hu : (∃ e', P.underlying u = some (.slice e')) ∨ P.underlying u = some .string)
    {base : Option Addr} {n cap m : Nat} {x : Value} {news : List Value} {w : World} (hl : (Builtin.lenOf x).run P w = .ok m w) (hf : (Builtin.firstCells i.size m x).run P w = .ok news.toArray w) (hfit : n + m ≤ cap) :
    (Builtin.append_ #[t, u] ty #[.slice base n cap, x]).run P w = match base with
      | none => .ok (.slice none (n + m) cap) w
      | some a => ((storeCells (a.add (n * i.size)) news).run P w).andThen fun _ w' => .ok (.slice (some a) (n + m) cap) w' := by
  unfold Builtin.append_
  rcases hu with ⟨e', hu⟩ | hu <;> cases base <;> simp [run_underlying ht, run_underlying hu, sizeOf, typeInfo, hi, hl, hf, hfit]
set_option maxHeartbeats 800000 in
theorem run_append_more {t u ty e : TypeId} {i : TypeInfo} {z : Value} (ht : P.underlying t = some (.slice e)) (hi : P.info? e = some i) (hz : i.zero = some z) (hu : (∃ e', P.underlying u = some (.slice e')) ∨ P.underlying u = some .string)
    {base : Option Addr} {n cap m : Nat} {x : Value} {olds news : List Value} {w : World} (hl : (Builtin.lenOf x).run P w = .ok m w) (hf : (Builtin.firstCells i.size m x).run P w.drew = .ok news.toArray w.drew)
    (ho : (Builtin.firstCells i.size n (.slice base n cap)).run P w.drew = .ok olds.toArray w.drew) (hfit : cap < n + m)
    (h63 : ((n + m : Nat) : Int) ≤ 9223372036854775807) (h48 : Builtin.nextslicecap (n + m) cap * i.bytes ≤ 281474976710656) :
    (Builtin.append_ #[t, u] ty #[.slice base n cap, x]).run P w = .ok (.slice (some ⟨w.heap.size, 0, none⟩) (n + m) (grownCap w (n + m) cap e))
        (w.drew.alloc (.cells (olds.toArray ++ news.toArray ++ Builtin.zeroCells z.cells (grownCap w (n + m) cap e - (n + m))) e)) := by
  have hn : ¬ n + m ≤ cap := by omega
  have h63' : ¬ (9223372036854775807 < ((n + m : Nat) : Int)) := by omega
  have h63'' : ¬ (9223372036854775807 < (n : Int) + (m : Int)) := by omega
  have h48' : ¬ (281474976710656 < Builtin.nextslicecap (n + m) cap * i.bytes) := by omega
  have hmax : IntKind.i64.max = 9223372036854775807 := rfl
  have hask : ∀ b (w : World), (askRoom b).run P w = .ok () w := fun b w => by unfold askRoom; split <;> simp [mark, Sem.run]
  unfold Builtin.append_
  rcases hu with ⟨e', hu⟩ | hu <;> simp [run_underlying ht, run_underlying hu, sizeOf, typeInfo, zeroValue, hi, hz, hl, hf, ho, hn, h63'', h48', hmax, hask, grownCap, choose, Sem.run, Question.forced, run_newRow'] <;> (congr 2; rw [← Array.append_assoc]; simp)

/-! entries that go, entries that come -/
theorem Ok.drop {σ : Sig} {w : World} (k : Ok σ h w) {es : List (Nat × VObj)} (hs : es.Sublist h.es) : Ok σ ⟨h.n, es⟩ w :=
  ⟨k.nil, k.pos, fun e he => k.obj e (hs.subset he), k.sep.sublist hs, k.lt⟩
theorem Step.drop {σ : Sig} {w : World} (k : Ok σ h w) {es : List (Nat × VObj)} (hs : es.Sublist h.es) : Step σ h w σ ⟨h.n, es⟩ w :=
  ⟨fun _ _ => rfl, Nat.le_refl _, k.drop hs, rfl, rfl, rfl, Nat.le_refl _, fun _ _ _ => rfl, fun _ _ ⟨e, he, h⟩ => ⟨e, hs.subset he, h⟩⟩
theorem sublist_mid {α : Type} (l r : List α) (x : α) : (l ++ r).Sublist (l ++ x :: r) := List.Sublist.append (List.Sublist.refl _) (List.sublist_cons_self _ _)
/-- a number more, that stands for nothing -/
theorem Step.null {σ : Sig} {w : World} (k : Ok σ h w) (e : TypeId) : Step σ h w (σ.put h.n none) ⟨h.n + 1, (h.n, .row [] e 0) :: h.es⟩ w := by
  have ha : ∀ i, i < h.n → (σ.put h.n none) i = σ i := fun i hi => by simp [Sig.put]; intro e; omega
  refine ⟨ha, Nat.le_succ _, ⟨?_, ?_, ?_, ?_, ?_⟩, rfl, rfl, rfl, Nat.le_refl _, fun _ _ _ => rfl, ?_⟩
  · rw [ha 0 k.pos]; exact k.nil
  · exact Nat.succ_le_succ (Nat.zero_le _)
  · intro e' he
    rcases List.mem_cons.1 he with rfl | he
    · exact ⟨Nat.lt_succ_self _, by simp [VObj.wf, scL], by simp [OkObj, Sig.put]⟩
    · obtain ⟨h1, h2, h3⟩ := k.obj e' he
      exact ⟨Nat.lt_succ_of_lt h1, VObj.wf_mono (Nat.le_succ _) h2, h3.agree h1 h2 ha⟩
  · refine List.pairwise_cons.2 ⟨fun e' he d hd hd' => ?_, k.sep.imp_of_mem fun {e1 e2} he1 he2 hs d hd hd' => ?_⟩
    · simp [Sig.put] at hd
    · rw [ha _ (k.obj e1 he1).1] at hd
      rw [ha _ (k.obj e2 he2).1] at hd'
      exact hs d hd hd'
  · intro i hi d hd
    simp only [Sig.put] at hd
    split at hd
    · cases hd
    · exact k.lt i (by simp at hi; omega) d hd
  · rintro b hb ⟨e', he, ho, hd⟩
    rcases List.mem_cons.1 he with rfl | he
    · simp [Sig.put] at hd
    · rw [ha _ (k.obj e' he).1] at hd
      exact ⟨e', he, ho, hd⟩
/-- a block that was owned is known under another number -/
theorem Step.again {σ : Sig} {w w' : World} (k : Ok σ h w) {l r : List (Nat × VObj)} {b : Nat} {ob : VObj} (he : h.es = l ++ (b, ob) :: r) (hown : ob.owned = true) {d : Nat} (hd : σ b = some d)
    (hos : w'.os = w.os) (htape : w'.tape = w.tape) (hout : w'.output = w.output) (hsz : w'.heap.size = w.heap.size) (hoth : ∀ i, i ≠ d → w'.heap[i]? = w.heap[i]?)
    {o' : VObj} (hw : o'.wf (h.n + 1)) (ho : OkObj (σ.put h.n (some d)) w' h.n o') :
    Step σ h w (σ.put h.n (some d)) ⟨h.n + 1, (h.n, o') :: (l ++ r)⟩ w' := by
  have ha : ∀ i, i < h.n → (σ.put h.n (some d)) i = σ i := fun i hi => by simp [Sig.put]; intro e; omega
  have hmem : (b, ob) ∈ h.es := by rw [he]; simp
  have hsep := k.sep
  rw [he] at hsep
  have hsep' : ∀ e ∈ l ++ r, ∀ d', σ e.1 = some d' → d' ≠ d := by
    intro e hem d' hd' e1
    subst e1
    rcases List.mem_append.1 hem with hm | hm
    · have := (List.pairwise_append.1 hsep).2.2 e hm _ List.mem_cons_self d' hd' hd
      simp [hown] at this
    · have := (List.pairwise_cons.1 (List.pairwise_append.1 hsep).2.1).1 e hm d' hd hd'
      simp [hown] at this
  have hsub : ∀ e ∈ l ++ r, e ∈ h.es := fun e hem => by rw [he]; exact (sublist_mid l r (b, ob)).subset hem
  refine ⟨ha, Nat.le_succ _, ⟨?_, ?_, ?_, ?_, ?_⟩, hos, htape, hout, by omega, ?_, ?_⟩
  · rw [ha 0 k.pos]; exact k.nil
  · exact Nat.succ_le_succ (Nat.zero_le _)
  · intro e hem
    rcases List.mem_cons.1 hem with rfl | hem
    · exact ⟨Nat.lt_succ_self _, hw, ho⟩
    · obtain ⟨h1, h2, h3⟩ := k.obj e (hsub e hem)
      exact ⟨Nat.lt_succ_of_lt h1, VObj.wf_mono (Nat.le_succ _) h2, (h3.agree h1 h2 ha).stay fun d' hd' => by
        rw [ha _ h1] at hd'
        exact hoth _ (hsep' e hem d' hd')⟩
  · refine List.pairwise_cons.2 ⟨fun e hem d1 hd1 hd2 => ?_, (k.sep.sublist (by rw [he]; exact sublist_mid l r (b, ob))).imp_of_mem fun {e1 e2} he1 he2 hs d1 hd1 hd2 => ?_⟩
    · have h1 := (k.obj e (hsub e hem)).1
      rw [ha _ h1] at hd2
      simp [Sig.put] at hd1
      exact absurd hd1.symm (hsep' e hem d1 hd2)
    · rw [ha _ (k.obj e1 (hsub e1 he1)).1] at hd1
      rw [ha _ (k.obj e2 (hsub e2 he2)).1] at hd2
      exact hs d1 hd1 hd2
  · intro i hi d1 hd1
    simp only [Sig.put] at hd1
    rw [hsz]
    split at hd1
    · cases hd1; exact k.lt b (k.obj _ hmem).1 d hd
    · exact k.lt i (by simp at hi; omega) d1 hd1
  · intro i _ hn
    exact hoth i fun e => hn ⟨_, hmem, hown, by rw [e]; exact hd⟩
  · rintro i _ ⟨e, hem, ho1, hd1⟩
    rcases List.mem_cons.1 hem with rfl | hem
    · simp [Sig.put] at hd1
      exact ⟨_, hmem, hown, by rw [← hd1]; exact hd⟩
    · rw [ha _ (k.obj e (hsub e hem)).1] at hd1
      exact ⟨e, hsub e hem, ho1, hd1⟩

def bytesV (l : List UInt8) : List VV := l.map fun b => .int .u8 b.toNat
/-- the cells of a slice or a string -/
def readK (h : Heap) (v : VV) (size : Nat) (K : Nat → List VV → Prop) : Prop :=
  match v with
  | .sl b o n _ => (match b with
    | 0 => eqNK n 0 (K 0 []) False
    | b + 1 => findK h.es (b + 1) fun ob => takeO ob o (n * size) fun l => K n l)
  | .str s => eqNK size 1 (K s.size (bytesV s.data.toList)) False
  | _ => False
theorem readK_ok {σ : Sig} {w : World} (k : Ok σ h w) {v : VV} {u : Value} (hv : FitV σ h.n v u) {size : Nat} (hsz : 0 < size) {K : Nat → List VV → Prop} (hk : readK h v size K) :
    ∃ m l, (∀ w', (Builtin.lenOf u).run P w' = .ok m w') ∧ (∀ w', w'.heap = w.heap → (Builtin.firstCells size m u).run P w' = .ok (denL σ l).toArray w') ∧ scL h.n l ∧ l.length = m * size ∧ K m l := by
  unfold readK at hk
  split at hk
  · rename_i b o n c
    obtain ⟨hw, rfl⟩ := hv.of rfl
    split at hk
    · obtain ⟨rfl, hk⟩ := eqNK_yes hk
      refine ⟨0, [], fun w' => by simp [den, Builtin.lenOf], fun w' _ => ?_, by simp [scL], by simp, hk⟩
      simp [den, k.nil, Builtin.firstCells, denL]
    · rename_i b
      obtain ⟨ob, hob, hk⟩ := findK_ok hk
      obtain ⟨l, hl, hat, hk⟩ := takeO_ok hk
      obtain ⟨h1, h2, h3⟩ := k.obj _ hob
      refine ⟨n, l, fun w' => by simp [den, Builtin.lenOf], fun w' hh => ?_, ?_, hl, hk⟩
      · simp only [den]
        cases hs : σ (b + 1) with
        | none =>
          have : l = [] := by
            cases l with
            | nil => rfl
            | cons x l =>
              obtain ⟨d, hd, _⟩ := h3.at (hat 0 x (by simp))
              rw [hs] at hd; cases hd
          subst this
          simp [Builtin.firstCells, denL]
        | some d =>
          simp only [Option.map_some]
          refine run_firstCells_some w' size n ⟨d, o, none⟩ n c (denL σ l) (by rw [denL_eq, List.length_map, hl]) fun j u hu => ?_
          rw [denL_eq, List.getElem?_map] at hu
          cases hj : l[j]? with
          | none => rw [hj] at hu; simp at hu
          | some v =>
            rw [hj] at hu
            simp at hu
            subst hu
            obtain ⟨d', hd', hc⟩ := h3.at (hat j v hj)
            rw [hs] at hd'; cases hd'
            rw [Addr.add_mid]
            rw [← hc]
            unfold World.cell?
            rw [hh]
      · rw [scL_iff]
        intro v hv
        obtain ⟨j, hj, rfl⟩ := List.mem_iff_getElem.1 hv
        exact VObj.at_sc h2 (hat j _ (by simp))
  · rename_i s
    obtain ⟨hw, rfl⟩ := hv.of rfl
    obtain ⟨rfl, hk⟩ := eqNK_yes hk
    refine ⟨s.size, _, fun w' => by simp [den, Builtin.lenOf], fun w' _ => ?_, ?_, by simp [bytesV], hk⟩
    · simp only [den, Builtin.firstCells, Sem.run_pure]
      congr 1
      apply Array.ext'
      simp only [bytesV, denL_eq, Array.toList_map, List.map_map]
      have : (s.extract 0 s.size).data.toList = s.data.toList := by simp
      rw [this]
      apply List.map_congr_left
      intro b _
      simp [den]
    · rw [scL_iff]
      intro v hv
      simp only [bytesV, List.mem_map] at hv
      obtain ⟨b, _, rfl⟩ := hv
      simp [sc]
  · exact hk.elim

def appendK (T : List Ty) (h : Heap) (t : TypeId) (s x : VV) (K : VV → Heap → Prop) : Prop :=
  elemK T t fun kd z => match kd with
    | .slice e => (match z.zero with
      | [] => False
      | _ :: _ => (match s with
        | .sl b so n c => readK h x z.size fun m vs => ((n + m) * z.bytes ≤ 140737488355328 ∧ n + m ≤ 281474976710656) ∧
          (match b with
          | 0 => (n = 0 ∧ c = 0) ∧ ∀ c', m ≤ c' → K (.sl h.n 0 m c') ⟨h.n + 1, (h.n, .row vs e (c' * z.size)) :: h.es⟩
          | b + 1 => remK h.es (b + 1) fun ob es => (match ob with
            | .row cs t' mm => (so = 0 ∧ t' = e ∧ cs.length = n * z.size ∧ mm = c * z.size) ∧ ∀ c', n + m ≤ c' → K (.sl h.n 0 (n + m) c') ⟨h.n + 1, (h.n, .row (cs ++ vs) e (c' * z.size)) :: es⟩
            | _ => False))
        | _ => False))
    | _ => False
theorem okObj_grown {σ : Sig} {w w0 : World} (k : Ok σ h w0) {cs : List VV} {e : TypeId} {c : Array Value} {sp : List Value} {d m : Nat} (hs : scL h.n cs) (hd : w.heap[d]? = some (.cells c e (0, 0)))
    (hc : c.toList = denL σ cs ++ sp) (hm : c.size = m) : OkObj (σ.put h.n (some d)) w h.n (.row cs e m) := by
  have e1 : (σ.put h.n (some d)) h.n = some d := by simp [Sig.put]
  have ha : ∀ i, i < h.n → (σ.put h.n (some d)) i = σ i := fun i hi => by simp [Sig.put]; intro e; omega
  simp only [OkObj, e1]
  exact ⟨c, (0, 0), sp, hd, by rw [den_agree_scL ha cs hs, hc], hm, fun i _ h => by simp at h⟩
theorem appendK_ok {σ : Sig} {w : World} (hT : TOk P T) (k : Ok σ h w) {t u ty : TypeId} {s x : VV} {us ux : Value} (hs : FitV σ h.n s us) (hx : FitV σ h.n x ux) {K : VV → Heap → Prop}
    (hu : (∃ e', P.underlying u = some (.slice e')) ∨ P.underlying u = some .string) (hk : appendK T h t s x K) : Gives P σ h w (Builtin.append_ #[t, u] ty #[us, ux]) K := by
  obtain ⟨kd, z, hk1, hkd⟩ := elemK_ok hT hk
  clear hk
  split at hk1
  · rename_i e0
    rcases hkd with ⟨e, ti, dd, zv, hke, hut, hty⟩ | ⟨n', e, ti, dd, zv, hke, hut, hty⟩
    case inr => cases hke
    cases hke
    split at hk1
    · exact hk1.elim
    rename_i z0 zs hz0
    have hzpos : 0 < z.size := by rw [← hty.len, hz0]; simp
    have hzc := zero_den hty k.nil
    have hzs : zv.cells.size = z.size := by rw [← Array.length_toList, hzc, denL_eq, List.length_map, hty.len]
    split at hk1
    · rename_i b so n c
      obtain ⟨hws, rfl⟩ := hs.of rfl
      obtain ⟨m, vs, hlen, hfst, hvs, hvl, ⟨hb1, hb2⟩, hk2⟩ := readK_ok (P := P) k hx hzpos hk1
      clear hk1
      -- the new block
      have fresh : ∀ (es : List (Nat × VObj)) (olds : List VV) (old : Nat), es.Sublist h.es → scL h.n olds → olds.length = n * z.size → 
          Step σ h w (σ.put h.n (some w.heap.size)) ⟨h.n + 1, (h.n, .row (olds ++ vs) e0 (grownCap w (n + m) old e0 * z.size)) :: es⟩
            (w.drew.alloc (.cells ((denL σ olds).toArray ++ (denL σ vs).toArray ++ Builtin.zeroCells zv.cells (grownCap w (n + m) old e0 - (n + m))) e0)) := by
        intro es olds old hsub ho hol
        have k' := (k.drop hsub).drew
        have hge := grownCap_ge w (n + m) old e0
        refine ((Step.drop k hsub).trans (Step.drew (k.drop hsub))).trans (Step.alloc k' _ _ ?_ ?_)
        · simp only [VObj.wf]
          rw [scL_iff] at ho hvs ⊢
          intro v hv
          rcases List.mem_append.1 hv with hv | hv
          · exact sc_mono (Nat.le_succ _) _ (ho v hv)
          · exact sc_mono (Nat.le_succ _) _ (hvs v hv)
        · refine okObj_grown (w0 := w) (k.drop hsub) (sp := (Builtin.zeroCells zv.cells (grownCap w (n + m) old e0 - (n + m))).toList) ?_ (heap_alloc_new _ _) ?_ ?_
          · rw [scL_iff] at ho hvs ⊢
            intro v hv
            rcases List.mem_append.1 hv with hv | hv
            · exact ho v hv
            · exact hvs v hv
          · simp [denL_eq]
          · simp only [Array.size_append, List.size_toArray, denL_eq, List.length_map, hol, hvl, size_zeroCells, hzs, ← Nat.add_mul]
            congr 1; omega
      have fitn : ∀ (c' : Nat), den (σ.put h.n (some w.heap.size)) (.sl h.n 0 (n + m) c') = .slice (some ⟨w.heap.size, 0, none⟩) (n + m) c' := fun c' => by simp [den, Sig.put]
      have wfn : ∀ (m' c' : Nat), wf (h.n + 1) (.sl h.n 0 m' c') := fun m' c' => by simp [wf, wf1, sc]
      split at hk2
      · obtain ⟨⟨rfl, rfl⟩, hk2⟩ := hk2
        by_cases hm : m = 0
        · subst hm
          have hvn : vs = [] := List.eq_nil_of_length_eq_zero (by simpa using hvl)
          subst hvn
          refine ⟨_, _, _, _, .slice none 0 0, ?_, .inr ⟨?_, ?_⟩, Step.null k e0, by simpa using hk2 0 (Nat.le_refl _)⟩
          · rw [show den σ (.sl 0 so 0 0) = .slice none 0 0 by simp [den, k.nil]]
            rw [run_append_fit hut hty.info hu (hlen w) (by rw [hty.size]; exact hfst w rfl) (by omega)]
          · simp [wf, wf1, sc]
          · simp [den, Sig.put]
        · have hr := run_append_more (ty := ty) (olds := []) hut hty.info hty.zero hu (base := none) (n := 0) (cap := 0) (hlen w) (by rw [hty.size]; exact hfst w.drew rfl) (by simp [Builtin.firstCells]) (by omega) (by omega)
            (growslice_fits (by omega) (by rw [hty.bytes]; exact hb1))
          have hge := grownCap_ge w (0 + m) 0 e0
          have hf := fresh h.es [] 0 (List.Sublist.refl _) (by simp [scL]) (by simp)
          rw [show den σ (.sl 0 so 0 0) = .slice none 0 0 by simp [den, k.nil]]
          refine ⟨σ.put h.n (some w.heap.size), _, _, _, _, hr, .inr ⟨?_, ?_⟩, ?_, hk2 (grownCap w (0 + m) 0 e0) (by omega)⟩
          · exact wfn _ _
          · have := fitn (grownCap w (0 + m) 0 e0); simp only [Nat.zero_add] at this ⊢; rw [this]
          · simpa [denL] using hf
      · rename_i b
        obtain ⟨l, ob, r, he, hk3⟩ := remK_ok hk2
        clear hk2
        split at hk3
        · rename_i cs t' mm
          obtain ⟨⟨rfl, rfl, hcl, rfl⟩, hk3⟩ := hk3
          have hmem : (b + 1, VObj.row cs t' (c * z.size)) ∈ h.es := by rw [he]; simp
          obtain ⟨k1, k2, k3⟩ := k.obj _ hmem
          simp only [VObj.wf] at k2
          cases hsg : σ (b + 1) with
          | none =>
            simp only [OkObj, hsg] at k3
            obtain ⟨rfl, hcz⟩ := k3
            have hc0 : c = 0 := by rcases Nat.mul_eq_zero.1 hcz with h | h <;> omega
            have hn0 : n = 0 := by
              have : n * z.size = 0 := by simpa using hcl.symm
              rcases Nat.mul_eq_zero.1 this with h | h <;> omega
            subst hc0; subst hn0
            rw [show den σ (.sl (b + 1) 0 0 0) = .slice none 0 0 by simp [den, hsg]]
            by_cases hm : m = 0
            · subst hm
              have hvn : vs = [] := List.eq_nil_of_length_eq_zero (by simpa using hvl)
              subst hvn
              refine ⟨_, _, _, _, .slice none 0 0, ?_, .inr ⟨?_, ?_⟩, (Step.drop k (by rw [he]; exact sublist_mid l r _)).trans (Step.null (k.drop (by rw [he]; exact sublist_mid l r _)) t'), by simpa using hk3 0 (Nat.le_refl _)⟩
              · rw [run_append_fit hut hty.info hu (hlen w) (by rw [hty.size]; exact hfst w rfl) (by omega)]
              · simp [wf, wf1, sc]
              · simp [den, Sig.put]
            · have hr := run_append_more (ty := ty) (olds := []) hut hty.info hty.zero hu (base := none) (n := 0) (cap := 0) (hlen w) (by rw [hty.size]; exact hfst w.drew rfl) (by simp [Builtin.firstCells]) (by omega) (by omega)
                (growslice_fits (by omega) (by rw [hty.bytes]; exact hb1))
              have hge := grownCap_ge w (0 + m) 0 t'
              have hf := fresh (l ++ r) [] 0 (by rw [he]; exact sublist_mid l r _) (by simp [scL]) (by simp)
              refine ⟨σ.put h.n (some w.heap.size), _, _, _, _, hr, .inr ⟨?_, ?_⟩, ?_, hk3 (grownCap w (0 + m) 0 t') (by omega)⟩
              · exact wfn _ _
              · have := fitn (grownCap w (0 + m) 0 t'); simp only [Nat.zero_add] at this ⊢; rw [this]
              · simpa [denL] using hf
          | some d =>
            simp only [OkObj, hsg] at k3
            obtain ⟨cur, fz, sp, e1, e2, e3, e4⟩ := k3
            have hdl : (denL σ cs).length = n * z.size := by rw [denL_eq, List.length_map, hcl]
            have hvdl : (denL σ vs).length = m * z.size := by rw [denL_eq, List.length_map, hvl]
            have hone : ∀ v ∈ denL σ vs, v.oneCell' = true := fun v hv => by
              rw [denL_eq, List.mem_map] at hv
              obtain ⟨x, hx, rfl⟩ := hv
              exact oneCell_of_sc ((scL_iff _ _).1 hvs x hx)
            rw [show den σ (.sl (b + 1) 0 n c) = .slice (some ⟨d, 0, none⟩) n c by simp [den, hsg]]
            by_cases hroom : n + m ≤ c
            · have hfit : 0 + n * z.size + (denL σ vs).length ≤ cur.size := by rw [hvdl, e3, Nat.zero_add, ← Nat.add_mul]; exact Nat.mul_le_mul_right _ hroom
              have hst := run_storeCells_put (P := P) d (n * z.size) t' fz (denL σ vs) 0 cur w e1 (by omega) (by rw [e3]; exact e4) hone
              have hlt := (Array.getElem?_eq_some_iff.1 e1).1
              have hscl : scL h.n (cs ++ vs) := by
                rw [scL_iff] at k2 hvs ⊢
                intro v hv
                rcases List.mem_append.1 hv with hv | hv
                · exact k2 v hv
                · exact hvs v hv
              have hlist : cur.toList.take (n * z.size + 0) ++ denL σ vs ++ cur.toList.drop (n * z.size + 0 + (denL σ vs).length) = denL σ (cs ++ vs) ++ cur.toList.drop (n * z.size + m * z.size) := by
                rw [Nat.add_zero, hvdl, e2, ← hdl, List.take_left]
                simp [denL_eq]
              refine ⟨_, _, _, _, .slice (some ⟨d, 0, none⟩) (n + m) c, ?_, .inr ⟨wfn _ _, ?_⟩, Step.again k he rfl hsg (w' := w.putObj d (.cells (cur.toList.take (n * z.size + 0) ++ denL σ vs ++ cur.toList.drop (n * z.size + 0 + (denL σ vs).length)).toArray t' fz))
                rfl rfl rfl (by simp [World.putObj]) (fun i hi => putObj_other _ _ _ _ hi) (by simp only [VObj.wf]; exact scL_mono (Nat.le_succ _) _ hscl) ?_, hk3 c hroom⟩
              · rw [run_append_fit hut hty.info hu (hlen w) (by rw [hty.size]; exact hfst w rfl) hroom]
                simp only []
                rw [hty.size, Addr.add_mid, Nat.zero_add, hst, Result.andThen_ok]
              · simp [den, Sig.put]
              · have ha : ∀ i, i < h.n → (σ.put h.n (some d)) i = σ i := fun i hi => by simp [Sig.put]; intro e; omega
                have e5 : (σ.put h.n (some d)) h.n = some d := by simp [Sig.put]
                simp only [OkObj, e5]
                refine ⟨_, fz, cur.toList.drop (n * z.size + m * z.size), putObj_self _ _ _ hlt, ?_, ?_, e4⟩
                · rw [den_agree_scL ha _ hscl]; simpa using hlist
                · rw [hlist]
                  have hcur : cur.toList.length = c * z.size := by simp [e3]
                  simp only [List.size_toArray, List.length_append, denL_eq, List.length_map, List.length_drop, hcl, hvl, hcur]
                  have : (n + m) * z.size ≤ c * z.size := Nat.mul_le_mul_right _ hroom
                  rw [Nat.add_mul] at this
                  omega
            · have hfo : (Builtin.firstCells ti.size n (.slice (some ⟨d, 0, none⟩) n c)).run P w.drew = .ok (denL σ cs).toArray w.drew := by
                rw [hty.size]
                refine run_firstCells_some w.drew z.size n ⟨d, 0, none⟩ n c (denL σ cs) hdl fun j u hu => ?_
                rw [Addr.add_mid, Nat.zero_add]
                show w.cell? ⟨d, j, none⟩ = some u
                rw [cell_of_row w d j cur t' fz e1, ← Array.getElem?_toList, e2, List.getElem?_append_left (List.getElem?_eq_some_iff.1 hu).1, hu]
              have hr := run_append_more (ty := ty) (olds := denL σ cs) hut hty.info hty.zero hu (base := some ⟨d, 0, none⟩) (n := n) (cap := c) (hlen w) (by rw [hty.size]; exact hfst w.drew rfl) hfo (by omega) (by omega)
                (growslice_fits (by omega) (by rw [hty.bytes]; exact hb1))
              have hge := grownCap_ge w (n + m) c t'
              have hf := fresh (l ++ r) cs c (by rw [he]; exact sublist_mid l r _) k2 hcl
              exact ⟨_, _, _, _, _, hr, .inr ⟨wfn _ _, (fitn _).symm⟩, hf, hk3 (grownCap w (n + m) c t') hge⟩
        · exact hk3.elim
    · exact hk1.elim
  · exact hk1.elim
theorem sem_append {s x : Operand} {t u : TypeId} (hT : TOk P T) (ho : o.op = .call { callee := .builtin .append, args := #[s, x], argTypes := #[t, u] })
    (hk : evK f s fun s => evK f x fun x => tyK T u fun yu => match yu.kind with
      | .slice _ => appendK T h t s x K
      | .str => appendK T h t s x K
      | _ => False) : SemOp P o f h K := by
  refine SemOp.value fun σ a w k hf => ?_
  obtain ⟨vs, hvs, k1⟩ := evK_ok k hf hk
  obtain ⟨vx, hvx, k2⟩ := evK_ok k hf k1
  obtain ⟨yu, hyu, k3⟩ := tyK_ok k2
  refine ⟨Builtin.append_ #[t, u] o.type #[a.eval s, a.eval x], ?_, ?_⟩
  · rw [exec_builtin1 ho]; simp [invoke, builtin]
  · split at k3
    · rename_i hkd
      obtain ⟨d, hd, hdk⟩ := under_kind hT hyu (by rw [hkd]; rfl)
      rw [hkd] at hdk
      obtain rfl := tk_slice hdk
      exact appendK_ok hT k hvs hvx (.inl ⟨_, hd⟩) k3
    · rename_i hkd
      obtain ⟨d, hd, hdk⟩ := under_kind hT hyu (by rw [hkd]; rfl)
      rw [hkd] at hdk
      obtain rfl := tk_str hdk
      exact appendK_ok hT k hvs hvx (.inr hd) k3
    · exact k3.elim
end Go.VM
