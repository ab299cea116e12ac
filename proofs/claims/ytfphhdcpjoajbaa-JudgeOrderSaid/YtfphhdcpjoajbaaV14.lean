/- Tests of arrays and structs of plain cells; look-ups; rows of wide elements. -/
import Derived.Test.YtfphhdcpjoajbaaV13
import Derived.DeepKeys3
namespace Go.VM
open Go.RowKit
variable {P : Program} {T : List Ty} {o : Oper} {f : List VV} {h : Heap} {K : VV → Heap → Prop}

inductive LK where | bool | int (k : IntKind) | str
  deriving DecidableEq
/-- the kinds of a type's cells, if it is made of plain ones and lies tight -/
def chkFs (P : Program) (g : TypeId → Option (List LK)) : List Field → Nat → Option (List LK)
  | [], _ => some []
  | fd :: r, off => if fd.name != "_" && fd.offset == off then
      (g fd.type).bind fun a => if P.cellsOf fd.type == a.length then (chkFs P g r (off + a.length)).map fun b => a ++ b else none
    else none
def chk (P : Program) : Nat → TypeId → Option (List LK)
  | 0, _ => none
  | d + 1, t => match P.underlying t with
    | some .bool => some [.bool]
    | some (.int q) => some [.int q]
    | some .string => some [.str]
    | some (.array n e) => (chk P d e).bind fun a => if P.cellsOf e == a.length && P.cellsOf t == n * a.length then some (List.replicate n a).flatten else none
    | some (.struct fs) => (chkFs P (chk P d) fs.toList 0).bind fun a => if P.cellsOf t == a.length then some a else none
    | _ => none
def FitC : LK → Value → Prop
  | .bool, .bool _ => True
  | .int q, .int q' n => q' = q ∧ (Lit.int q n).wf = true
  | .str, .string s => s.size ≤ maxLen
  | _, _ => False
theorem All2.len {α β : Type} {R : α → β → Prop} : ∀ {l : List α} {m : List β}, All2 R l m → l.length = m.length
  | _, _, .nil => rfl
  | _, _, .cons _ t => by simp [t.len]
theorem All2.split {α β : Type} {R : α → β → Prop} : ∀ {a b : List α} {m : List β}, All2 R (a ++ b) m → All2 R a (m.take a.length) ∧ All2 R b (m.drop a.length)
  | [], b, m, h => ⟨by simpa using All2.nil, by simpa using h⟩
  | x :: a, b, _, .cons h t => by
    obtain ⟨h1, h2⟩ := All2.split (a := a) t
    exact ⟨by simpa using .cons h h1, by simpa using h2⟩
theorem keyLits_chkFs {d : Nat} (ih : ∀ t ks, chk P d t = some ks → ∀ cs, All2 FitC ks cs → ∃ l, P.keyLits d t cs = some l) : ∀ (fs : List Field) (off : Nat) (ks : List LK), chkFs P (chk P d) fs off = some ks →
    ∀ cs : List Value, All2 FitC ks (cs.drop off) → (∀ f ∈ fs, f.name ≠ "_") ∧ ∃ l, fs.mapM (fun f => P.keyLits d f.type ((cs.drop f.offset).take (P.cellsOf f.type))) = some l
  | [], off, ks, _, cs, _ => ⟨by simp, [], by simp⟩
  | fd :: r, off, ks, hk, cs, hf => by
    simp only [chkFs] at hk
    split at hk
    · rename_i hc
      simp only [Bool.and_eq_true, bne_iff_ne, beq_iff_eq] at hc
      simp only [Option.bind_eq_some_iff] at hk
      obtain ⟨a, ha, hk⟩ := hk
      split at hk
      · rename_i hl
        simp only [beq_iff_eq] at hl
        simp only [Option.map_eq_some_iff] at hk
        obtain ⟨b, hb, rfl⟩ := hk
        obtain ⟨h1, h2⟩ := All2.split hf
        rw [List.drop_drop] at h2
        obtain ⟨l, hl'⟩ := ih _ _ ha _ h1
        obtain ⟨hn, l2, hl2⟩ := keyLits_chkFs ih r _ _ hb cs h2
        refine ⟨fun g hg => ?_, l :: l2, ?_⟩
        · rcases List.mem_cons.1 hg with rfl | hg
          · exact hc.1
          · exact hn g hg
        · rw [List.mapM_cons]
          simp only [hc.2, hl, hl', hl2, bind, Option.bind_some, pure]
      · cases hk
    · cases hk
theorem keyLits_reps {d : Nat} {e : TypeId} {a : List LK} (ih : ∀ cs, All2 FitC a cs → ∃ l, P.keyLits d e cs = some l) (hl : P.cellsOf e = a.length) : ∀ (n k : Nat) (cs : List Value), All2 FitC (List.replicate n a).flatten (cs.drop (k * a.length)) →
    ∃ l, (List.range' k n).mapM (fun i => P.keyLits d e ((cs.drop (i * P.cellsOf e)).take (P.cellsOf e))) = some l
  | 0, k, cs, _ => ⟨[], by simp⟩
  | n + 1, k, cs, h => by
    rw [List.replicate_succ, List.flatten_cons] at h
    obtain ⟨h1, h2⟩ := All2.split h
    obtain ⟨l, hl'⟩ := ih _ h1
    rw [List.drop_drop, show k * a.length + a.length = (k + 1) * a.length by rw [Nat.add_mul, Nat.one_mul]] at h2
    obtain ⟨l2, hl2⟩ := keyLits_reps ih hl n (k + 1) cs h2
    refine ⟨l :: l2, ?_⟩
    rw [List.range'_succ, List.mapM_cons]
    rw [hl] at hl2 ⊢
    simp only [hl', hl2, bind, Option.bind_some, pure]
theorem keyLits_chk : ∀ (d : Nat) (t : TypeId) (ks : List LK), chk P d t = some ks → ∀ cs, All2 FitC ks cs → ∃ l, P.keyLits d t cs = some l
  | 0, _, _, h, _, _ => by simp [chk] at h
  | d + 1, t, ks, h, cs, hf => by
    unfold chk at h
    unfold Program.keyLits
    split at h <;> (try rename_i hu) <;> (try simp only [hu])
    · cases h
      cases hf with
      | cons h1 h2 =>
        cases h2
        rename_i v
        cases v <;> simp [FitC] at h1
        exact ⟨_, rfl⟩
    · cases h
      cases hf with
      | cons h1 h2 =>
        cases h2
        rename_i v
        cases v <;> simp only [FitC] at h1 <;> try exact h1.elim
        simp only []
        rw [if_pos h1]
        exact ⟨_, rfl⟩
    · cases h
      cases hf with
      | cons h1 h2 =>
        cases h2
        rename_i v
        cases v <;> simp only [FitC] at h1 <;> try exact h1.elim
        simp only []
        rw [if_pos h1]
        exact ⟨_, rfl⟩
    · rename_i n e
      simp only [Option.bind_eq_some_iff] at h
      obtain ⟨a, ha, h⟩ := h
      split at h
      · rename_i hc
        simp only [Bool.and_eq_true, beq_iff_eq] at hc
        cases h
        have hlen : cs.length = n * a.length := by rw [← hf.len]; simp
        rw [if_pos (by rw [hc.2, hlen])]
        obtain ⟨l, hl⟩ := keyLits_reps (fun cs => keyLits_chk d e a ha cs) hc.1 n 0 cs (by simpa using hf)
        rw [← List.range_eq_range'] at hl
        rw [hl]
        exact ⟨_, rfl⟩
      · cases h
    · rename_i fs
      simp only [Option.bind_eq_some_iff] at h
      obtain ⟨a, ha, h⟩ := h
      split at h
      · rename_i hc
        simp only [beq_iff_eq] at hc
        cases h
        obtain ⟨hn, l, hl⟩ := keyLits_chkFs (fun t ks h cs => keyLits_chk d t ks h cs) fs.toList 0 _ ha cs (by simpa using hf)
        rw [if_pos ⟨by rw [hc, hf.len], by rw [← Array.all_toList, List.all_eq_true]; intro f hf; simpa using hn f hf⟩, hl]
        exact ⟨_, rfl⟩
      · cases h
    · cases h

/-- what may be held against another of its type by '==' -/
structure EqTy (P : Program) (t : TypeId) (m : Nat) (ks : List LK) : Prop where
  key : P.keyTypeAt m t = true
  small : m ≤ 10000
  tiled : P.tiled m t = true
  chk : VM.chk P m t = some ks
  guard : P.eqGuardType P.depth t = false
  agg : (match P.underlying t with | some (.array _ _) | some (.struct _) => true | _ => false) = true
def FitVV (ks : List LK) (cs : List VV) : Prop := All2 (fun k v => FitC k (den (fun _ => none) v)) ks cs
theorem fitC_den {k : LK} {v : VV} (h : FitC k (den (fun _ => none) v)) (σ : Sig) : den σ v = den (fun _ => none) v := by
  cases v <;> cases k <;> simp [den, FitC] at h ⊢
theorem fitVV_den (σ : Sig) : ∀ {ks : List LK} {cs : List VV}, FitVV ks cs → All2 FitC ks (denL σ cs) ∧ denL σ cs = denL (fun _ => none) cs
  | _, _, .nil => ⟨by simpa [denL] using .nil, by simp [denL]⟩
  | _, _, .cons h t => by
    obtain ⟨h1, h2⟩ := fitVV_den σ t
    exact ⟨by simp only [denL]; exact .cons (by rw [fitC_den h σ]; exact h) h1, by simp only [denL]; rw [fitC_den h σ, h2]⟩
theorem den_inj {k k' : LK} {v u : VV} (h : FitC k (den (fun _ => none) v)) (h' : FitC k' (den (fun _ => none) u)) (e : den (fun _ => none) v = den (fun _ => none) u) : v = u := by
  cases v <;> cases k <;> simp [den, FitC] at h <;> cases u <;> cases k' <;> simp [den, FitC] at h' <;> simp [den] at e <;> simp [e]
theorem denL_inj : ∀ {ks ks' : List LK} {cs ds : List VV}, FitVV ks cs → FitVV ks' ds → denL (fun _ => none) cs = denL (fun _ => none) ds → cs = ds
  | _, _, _, _, .nil, .nil, _ => rfl
  | _, _, _, _, .nil, .cons _ _, e => by simp [denL] at e
  | _, _, _, _, .cons _ _, .nil, e => by simp [denL] at e
  | _, _, _, _, .cons h t, .cons h' t', e => by
    simp only [denL, List.cons.injEq] at e
    rw [den_inj h h' e.1, denL_inj t t' e.2]
theorem run_equal_agg {t : TypeId} {m : Nat} {ks : List LK} (E : EqTy P t m ks) (σ : Sig) {cs ds : List VV} (hc : FitVV ks cs) (hd : FitVV ks ds) (w : World) :
    ∃ r : Bool, (Op.equal t (.agg (denL σ cs).toArray) (.agg (denL σ ds).toArray)).run P w = .ok r w ∧ (r = true ↔ cs = ds) := by
  obtain ⟨f1, e1⟩ := fitVV_den σ hc
  obtain ⟨f2, e2⟩ := fitVV_den σ hd
  obtain ⟨l1, hl1⟩ := keyLits_chk m t ks E.chk _ f1
  obtain ⟨l2, hl2⟩ := keyLits_chk m t ks E.chk _ f2
  have hsz : ∀ cs : List Value, All2 FitC ks cs → cs.length = P.cellsOf t := by
    intro cs hcs
    have hc0 := E.chk
    obtain ⟨m', rfl⟩ : ∃ k, m = k + 1 := by cases m with | zero => simp [VM.chk] at hc0 | succ k => exact ⟨k, rfl⟩
    have ha := E.agg
    unfold VM.chk at hc0
    split at hc0 <;> first | (rename_i hu; rw [hu] at ha; simp at ha; done) | skip
    · simp only [Option.bind_eq_some_iff] at hc0
      obtain ⟨a, _, h⟩ := hc0
      split at h
      · rename_i hq
        simp only [Bool.and_eq_true, beq_iff_eq] at hq
        cases h
        rw [← hcs.len, hq.2]; simp
      · cases h
    · simp only [Option.bind_eq_some_iff] at hc0
      obtain ⟨a, _, h⟩ := hc0
      split at h
      · rename_i hq
        simp only [beq_iff_eq] at hq
        cases h
        rw [← hcs.len, hq]
      · cases h
    · cases hc0
  have hform : ∀ cs : List Value, All2 FitC ks cs → (Value.agg cs.toArray).formed P t = true := by
    intro cs hcs
    have ha := E.agg
    have := hsz cs hcs
    unfold Value.formed
    split at ha
    · rename_i hu; simp [hu, this]
    · rename_i hu; simp [hu, this]
    · cases ha
  obtain ⟨r, hr, hiff⟩ := run_equalIn_deep (P := P) (10000 - m) m t E.key w m m (.agg (denL σ cs).toArray) (.agg (denL σ ds).toArray) l1 l2 (hform _ f1) (hform _ f2) (by simpa [Value.cells] using hl1) (by simpa [Value.cells] using hl2)
  rw [show 10000 - m + m = 10000 from by have := E.small; omega] at hr
  refine ⟨r, hr, ?_⟩
  rw [hiff]
  have c1 := cells_of_lits m t E.tiled m _ _ hl1
  have c2 := cells_of_lits m t E.tiled m _ _ hl2
  constructor
  · intro e
    refine denL_inj hc hd ?_
    rw [← e1, ← e2, c1, c2, e]
  · rintro rfl
    rw [hl1] at hl2
    exact Option.some.inj hl2
theorem sem_eqAgg (hT : TOk P T) {op : BinOp} {t t' : TypeId} {x y : Operand} {m : Nat} {ks : List LK} (E : EqTy P t m ks) (ho : o.op = .binOp op t x y t') (hk : evK f x fun v => evK f y fun u => match v with
    | .agg cs => (match u with
      | .agg ds => FitVV ks cs ∧ FitVV ks ds ∧ ∀ r : Bool, (r = true ↔ cs = ds) → eqB op r fun v => K v h
      | _ => False)
    | _ => False) : SemOp P o f h K := by
  refine SemOp.value fun σ a w k hf => ?_
  obtain ⟨v, hv, k1⟩ := evK_ok k hf hk
  clear hk
  obtain ⟨u, hu, k2⟩ := evK_ok k hf k1
  clear k1
  split at k2
  · split at k2
    · rename_i cs _ ds
      obtain ⟨h1, h2, k3⟩ := k2
      obtain ⟨_, ev⟩ := hv.of rfl
      obtain ⟨_, eu⟩ := hu.of rfl
      simp only [den] at ev eu
      obtain ⟨r, hr, hiff⟩ := run_equal_agg E σ h1 h2 w
      obtain ⟨v', hr', hw, hd', hK⟩ := eqB_ok (P := P) (k3 r hiff) (t := t) (x := x) (y := y) (u := .agg (denL σ cs).toArray) (v := .agg (denL σ ds).toArray) (w := w) (fun hop => by
        rcases hop with rfl | rfl <;> simp [eqGuard, E.guard]) hr (by simp) (by simp) (by simp) (by simp)
      refine ⟨_, by unfold execOp; rw [ho], ?_⟩
      rw [ev, eu]
      exact Gives.same k hr' (.inr ⟨hw _, (hd' σ).symm⟩) hK
    · exact k2.elim
  · exact k2.elim
end Go.VM
