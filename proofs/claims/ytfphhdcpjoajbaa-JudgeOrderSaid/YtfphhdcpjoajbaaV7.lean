/- What the single operations do, over virtual values: parts, slices, literals, maps. -/
import Derived.Test.YtfphhdcpjoajbaaV6
namespace Go.VM
open Go.RowKit
variable {P : Program} {T : List Ty} {o : Oper} {f : List VV} {h : Heap} {K : VV → Heap → Prop}

def eqNK (a b : Nat) (A B : Prop) : Prop := match Nat.beq a b with
  | true => A
  | false => B
theorem eqNK_yes {a b : Nat} {A : Prop} (h : eqNK a b A False) : a = b ∧ A := by
  unfold eqNK at h
  split at h
  · exact ⟨Nat.eq_of_beq_eq_true ‹_›, h⟩
  · exact h.elim
theorem eqNK_of {a b : Nat} {A B : Prop} (h : a = b) (k : A) : eqNK a b A B := by
  subst h; simp [eqNK]; exact k
theorem eqNK_no {a b : Nat} {A B : Prop} (h : a ≠ b) (k : B) : eqNK a b A B := by
  have : Nat.beq a b = false := by cases hb : Nat.beq a b; rfl; exact absurd (Nat.eq_of_beq_eq_true hb) h
  simp [eqNK, this]; exact k
theorem eqNK_or {a b : Nat} {A B : Prop} (h : eqNK a b A B) : (a = b ∧ A) ∨ (a ≠ b ∧ B) := by
  unfold eqNK at h
  split at h
  · exact .inl ⟨Nat.eq_of_beq_eq_true ‹_›, h⟩
  · exact .inr ⟨Nat.ne_of_beq_eq_false ‹_›, h⟩

/-! parts of values -/
def partK (T : List Ty) (t : TypeId) (cs : List VV) (off : Nat) (K : VV → Prop) : Prop :=
  tyK T t fun z => goodK z (match z.kind.isAgg with
    | true => takeC cs off z.size fun l => K (.agg l)
    | false => getF cs off K)
theorem partK_ok {σ : Sig} {n : Nat} (hT : TOk P T) {t : TypeId} {cs : List VV} {off : Nat} {K : VV → Prop} (hs : scL n cs) (hk : partK T t cs off K) (w : World) :
    ∃ v, (part t (denL σ cs).toArray off).run P w = .ok (den σ v) w ∧ wf n v ∧ K v := by
  obtain ⟨z, hz, hk⟩ := tyK_ok hk
  obtain ⟨hg, hk⟩ := goodK_ok hk
  obtain ⟨i, d, zv, ty⟩ := hT.get hz hg
  have hag : (tk P d).isAgg = z.kind.isAgg := by rw [ty.kind]
  have hgd : (tk P d).good = true := by rw [ty.kind]; exact hg
  unfold part
  rw [Sem.run_bind, run_isAgg_of ty.under hgd, Result.andThen_ok, hag]
  split at hk
  · rename_i hA
    obtain ⟨h1, hk⟩ := takeC_ok hk
    refine ⟨_, ?_, ?_, hk⟩
    · simp only [hA, if_true]
      rw [Sem.run_bind, run_sizeOf_of ty.info, Result.andThen_ok, ty.size]
      simp only [if_true, Sem.run_bind, Sem.run_pure, Result.andThen_ok, den]
      congr 2
      apply Array.ext'
      simp only [Array.toList_extract, List.extract_eq_take_drop, denL_eq, List.map_take, List.map_drop]
      congr 1
      omega
    · simp only [wf, wf1, scL_iff] at hs ⊢
      intro v hv
      exact hs v (List.mem_of_mem_drop (List.mem_of_mem_take hv))
  · rename_i hA
    obtain ⟨v, hv, hk⟩ := getF_ok hk
    refine ⟨v, ?_, wf_of_sc ((scL_iff _ _).1 hs v (List.mem_of_getElem? hv)), hk⟩
    simp [hA, denL_eq, hv]
theorem sem_field {t : TypeId} {x : Operand} {i : Nat} (hT : TOk P T) (ho : o.op = .field t x i) (hk : evK f x fun v => match v with
    | .agg cs => structK T t i fun fo _ ft => partK T ft cs fo fun v => K v h
    | _ => False) : SemOp P o f h K := by
  refine SemOp.value fun σ a w k hf => ?_
  obtain ⟨v, hv, hk⟩ := evK_ok k hf hk
  refine ⟨_, by unfold execOp; rw [ho], ?_⟩
  split at hk
  · obtain ⟨hw, he⟩ := hv.of rfl
    simp only [den] at he; rw [he]
    obtain ⟨fs, fd, ti, h1, h2, h3, hk⟩ := structK_ok hT hk
    obtain ⟨u, hr, hw, hk⟩ := partK_ok (σ := σ) hT (by simpa [wf, wf1] using hw) hk w
    refine Gives.same k ?_ (fit_den hw) hk
    unfold Instr.field
    rw [Sem.run_bind, run_underlying h1, Result.andThen_ok]
    simp only [h2]
    rw [Sem.run_bind]
    simp only [asAgg, Sem.run_pure, Result.andThen_ok]
    exact hr
  · exact hk.elim
theorem sem_index {t : TypeId} {x y : Operand} (hT : TOk P T) (ho : o.op = .index t x y) (hk : evK f x fun v => evK f y fun i => match i with
    | .int _ i => (match v with
      | .agg cs => tyK T t fun ty => (match ty.kind with
        | .arr n e => (0 ≤ i ∧ i < n) ∧ tyK T e fun z => partK T e cs (i.toNat * z.size) fun v => K v h
        | _ => False)
      | .str s => tyK T t fun ty => (match ty.kind with
        | .str => 0 ≤ i ∧ i.toNat < s.size ∧ ∀ c, s[i.toNat]? = some c → K (.int .u8 c.toNat) h
        | _ => False)
      | _ => False)
    | _ => False) : SemOp P o f h K := by
  refine SemOp.value fun σ a w k hf => ?_
  obtain ⟨v, hv, k1⟩ := evK_ok k hf hk
  clear hk
  obtain ⟨i, hi, hk⟩ := evK_ok k hf k1
  clear k1
  refine ⟨_, by unfold execOp; rw [ho], ?_⟩
  split at hk
  · rename_i ik i
    obtain ⟨_, hie⟩ := hi.of rfl
    simp only [den] at hie; rw [hie]
    split at hk
    · rename_i cs
      obtain ⟨hw, he⟩ := hv.of rfl
      simp only [den] at he; rw [he]
      obtain ⟨ty, hty, hk⟩ := tyK_ok hk
      split at hk
      · rename_i n e hkd
        obtain ⟨d, hd, hdk⟩ := under_kind hT hty (by rw [hkd]; rfl)
        rw [hkd] at hdk
        obtain rfl := tk_arr hdk
        obtain ⟨hb, hk⟩ := hk
        obtain ⟨z, hz, hk⟩ := tyK_ok hk
        have hk0 := hk
        obtain ⟨z', hz', hk1⟩ := tyK_ok hk0
        rw [hz] at hz'; cases hz'
        obtain ⟨hg, _⟩ := goodK_ok hk1
        obtain ⟨ti, d', zv, ty'⟩ := hT.get hz hg
        obtain ⟨u, hr, hw, hk⟩ := partK_ok (σ := σ) hT (by simpa [wf, wf1] using hw) hk w
        refine Gives.same k ?_ (fit_den hw) hk
        unfold Instr.index
        simp only [asIntOf, Sem.run_bind, Sem.run_pure, Result.andThen_ok, run_underlying hd]
        rw [if_pos hb, Sem.run_bind, run_sizeOf_of ty'.info, Result.andThen_ok, ty'.size]
        exact hr
      · exact hk.elim
    · rename_i s
      obtain ⟨hw, he⟩ := hv.of rfl
      simp only [den] at he; rw [he]
      obtain ⟨ty, hty, hk⟩ := tyK_ok hk
      split at hk
      · rename_i hkd
        obtain ⟨d, hd, hdk⟩ := under_kind hT hty (by rw [hkd]; rfl)
        rw [hkd] at hdk
        obtain rfl := tk_str hdk
        obtain ⟨h0, hlt, hk⟩ := hk
        have hc : s[i.toNat]? = some s[i.toNat] := by simp [hlt]
        refine Gives.same k ?_ (fit_int _ _) (hk _ hc)
        unfold Instr.index
        simp [asIntOf, Sem.run_bind, run_underlying hd, h0, hc]
      · exact hk.elim
    · exact hk.elim
  · exact hk.elim

/-! slices of slices, of arrays, of strings -/
def evO (f : List VV) (x : Option Operand) (K : Option Int → Prop) : Prop :=
  match x with
  | none => K none
  | some x => evK f x fun v => match v with
    | .int _ i => K (some i)
    | _ => False
theorem evO_ok {σ : Sig} {w : World} (k : Ok σ h w) {a : Act} (hf : FRel σ h.n f a.tmps) {x : Option Operand} {K : Option Int → Prop} (he : evO f x K) :
    ∃ i, K i ∧ ((x.map a.eval = none ∧ i = none) ∨ ∃ kd n, x.map a.eval = some (.int kd n) ∧ i = some n) := by
  cases x with
  | none => exact ⟨none, he, .inl ⟨rfl, rfl⟩⟩
  | some x =>
    obtain ⟨v, hv, hk⟩ := evK_ok k hf he
    split at hk
    · rename_i kd i
      obtain ⟨_, e⟩ := hv.of rfl
      simp only [den] at e
      exact ⟨some i, hk, .inr ⟨kd, i, by simp [e], rfl⟩⟩
    · exact hk.elim
def hiK (n c : Nat) (hi : Option Int) (K : Nat → Prop) : Prop :=
  match hi with
  | none => K n
  | some i => (0 ≤ i ∧ i ≤ (c : Int)) ∧ K i.toNat
def loK (h : Nat) (lo : Option Int) (A : Prop) (K : Nat → Prop) : Prop :=
  match lo with
  | none => A
  | some i => (0 ≤ i ∧ i ≤ (h : Int)) ∧ K i.toNat
theorem run_bounds {n c : Nat} {lo hi : Option Int} {vl vh : Option Value} {b : Bool} {K : Nat → Nat → Prop} {K0 : Nat → Prop}
    (hl : (vl = none ∧ lo = none) ∨ ∃ kd i, vl = some (.int kd i) ∧ lo = some i) (hh : (vh = none ∧ hi = none) ∨ ∃ kd i, vh = some (.int kd i) ∧ hi = some i)
    (hk : hiK n c hi fun h => loK h lo (K0 h) (K h)) (w : World) :
    ∃ l h, (Instr.sliceBounds b n c vl vh none).run P w = .ok (l, h, c) w ∧ ((lo = none ∧ l = 0 ∧ K0 h) ∨ (∃ i, lo = some i ∧ l = i.toNat ∧ K h l)) := by
  have hsb : ∀ (kd : IntKind) (i : Int) (y : Nat) (cd : BoundsCode), (0 ≤ i ∧ i ≤ (y : Int)) → (Instr.sliceBound (.int kd i) y cd).run P w = .ok i.toNat w := by
    intro kd i y cd hb
    unfold Instr.sliceBound
    simp [asIntOf, hb]
  unfold Instr.sliceBounds
  rcases hh with ⟨rfl, rfl⟩ | ⟨kd, i, rfl, rfl⟩
  · simp only [hiK] at hk
    rcases hl with ⟨rfl, rfl⟩ | ⟨kd', j, rfl, rfl⟩
    · simp only [loK] at hk
      exact ⟨0, n, by simp, .inl ⟨rfl, rfl, hk⟩⟩
    · simp only [loK] at hk
      refine ⟨j.toNat, n, ?_, .inr ⟨j, rfl, rfl, hk.2⟩⟩
      simp [hsb kd' j n _ hk.1]
  · simp only [hiK] at hk
    obtain ⟨hb, hk⟩ := hk
    rcases hl with ⟨rfl, rfl⟩ | ⟨kd', j, rfl, rfl⟩
    · simp only [loK] at hk
      refine ⟨0, i.toNat, ?_, .inl ⟨rfl, rfl, hk⟩⟩
      simp [hsb kd i c _ hb]
    · simp only [loK] at hk
      refine ⟨j.toNat, i.toNat, ?_, .inr ⟨j, rfl, rfl, hk.2⟩⟩
      have hk1 : 0 ≤ j ∧ j ≤ ((i.toNat : Nat) : Int) := hk.1
      simp [hsb kd i c _ hb, hsb kd' j _ _ hk1]
/-- (a recursion, that it stays folded where the answer is open) -/
def offK : List Bool → Nat → Nat → (Nat → Prop) → Prop
  | [], o, _, K => K o
  | b :: r, o, d, K => match b with
    | true => offK r o d K
    | false => K (o + d)
theorem offK_or {c l o d : Nat} {K : Nat → Prop} (h : offK [Nat.beq c l] o d K) : (c = l ∧ K o) ∨ (c ≠ l ∧ K (o + d)) := by
  simp only [offK] at h
  split at h
  · exact .inl ⟨Nat.eq_of_beq_eq_true ‹_›, h⟩
  · exact .inr ⟨Nat.ne_of_beq_eq_false ‹_›, h⟩
theorem offK_of {c l o d : Nat} {K : Nat → Prop} (h1 : c = l → K o) (h2 : c ≠ l → K (o + d)) : offK [Nat.beq c l] o d K := by
  simp only [offK]
  split
  · exact h1 (Nat.eq_of_beq_eq_true ‹_›)
  · exact h2 (Nat.ne_of_beq_eq_false ‹_›)
def subK (b off n c size : Nat) (lo hi : Option Int) (K : VV → Prop) : Prop :=
  hiK n c hi fun hh => loK hh lo (K (.sl b off hh c)) fun l => offK [Nat.beq c l] off (l * size) fun o => K (.sl b o (hh - l) (c - l))
theorem sem_slice {t : TypeId} {x : Operand} {lo hi : Option Operand} (hT : TOk P T) (ho : o.op = .slice t x lo hi none) (hk : evK f x fun v => evO f lo fun lo => evO f hi fun hi => match v with
    | .sl b off n c => elemK T t fun kd z => (match kd with
      | .slice _ => subK b off n c z.size lo hi fun v => K v h
      | _ => False)
    | .ptr b off => elemK T t fun kd z => (match kd with
      | .arr n _ => findK h.es b fun o => liveK o (subK b off n n z.size lo hi fun v => K v h)
      | _ => False)
    | .str s => tyK T t fun ty => (match ty.kind with
      | .str => hiK s.size s.size hi fun hh => loK hh lo (K (.str (s.extract 0 hh)) h) fun l => K (.str (s.extract l hh)) h
      | _ => False)
    | _ => False) : SemOp P o f h K := by
  refine SemOp.value fun σ a w k hf => ?_
  obtain ⟨v, hv, k1⟩ := evK_ok k hf hk
  clear hk
  obtain ⟨li, k2, hl⟩ := evO_ok k hf k1
  clear k1
  obtain ⟨hi', hk, hh⟩ := evO_ok k hf k2
  clear k2
  refine ⟨_, by unfold execOp; rw [ho], ?_⟩
  split at hk
  · rename_i b off n c
    obtain ⟨hw, he⟩ := hv.of rfl
    simp only [den] at he; rw [he]
    obtain ⟨kd, z, hk, hkd⟩ := elemK_ok hT hk
    split at hk
    · rename_i e0
      rcases hkd with ⟨e, ti, dd, zv, hke, hu, ty⟩ | ⟨n', e, ti, dd, zv, hke, hu, ty⟩
      · unfold subK at hk
        obtain ⟨l, hh', hr, hk⟩ := run_bounds (P := P) (b := true) hl hh hk w
        have hrun : (Instr.sliceAt t (.slice ((σ b).map fun d => ⟨d, off, none⟩) n c) (lo.map a.eval) (hi.map a.eval) (Option.map a.eval none)).run P w =
            .ok (.slice (if c = l then (σ b).map fun d => ⟨d, off, none⟩ else ((σ b).map fun d => (⟨d, off, none⟩ : Addr)).map (·.add (l * z.size))) (hh' - l) (c - l)) w := by
          unfold Instr.sliceAt
          rw [Sem.run_bind, run_underlying hu, Result.andThen_ok]
          simp only []
          unfold Instr.slice
          rw [Sem.run_bind, run_underlying hu, Result.andThen_ok]
          simp only []
          rw [Sem.run_bind, Option.map_none, hr, Result.andThen_ok]
          simp only []
          rw [Sem.run_bind, run_sizeOf_of ty.info, Result.andThen_ok, ty.size]
          simp
        rcases hk with ⟨_, rfl, hk⟩ | ⟨i, _, rfl, hk⟩
        · refine Gives.same k hrun (.inr ⟨by simpa [wf, wf1, sc] using hw, ?_⟩) hk
          simp only [den, Nat.zero_mul, Nat.sub_zero, ite_self]
          split
          · rfl
          · cases σ b <;> simp [Addr.add]
        · rcases offK_or hk with ⟨rfl, hk⟩ | ⟨hne, hk⟩
          · refine Gives.same k hrun (.inr ⟨by simpa [wf, wf1, sc] using hw, ?_⟩) hk
            simp [den]
          · refine Gives.same k hrun (.inr ⟨by simpa [wf, wf1, sc] using hw, ?_⟩) hk
            simp only [den, if_neg hne]
            cases σ b <;> simp [Addr.add_mid]
      · cases hke
    · exact hk.elim
  · rename_i b off
    obtain ⟨hw, he⟩ := hv.of rfl
    simp only [den] at he; rw [he]
    obtain ⟨kd, z, hk, hkd⟩ := elemK_ok hT hk
    split at hk
    · rename_i n0 e0
      rcases hkd with ⟨e, ti, dd, zv, hke, hu, ty⟩ | ⟨n', e, ti, dd, zv, hke, hu, ty⟩
      · cases hke
      · cases hke
        obtain ⟨o', ho', hk⟩ := findK_ok hk
        obtain ⟨⟨d, hd⟩, hk⟩ := liveK_ok (k.obj _ ho').2.2 hk
        unfold subK at hk
        obtain ⟨l, hh', hr, hk⟩ := run_bounds (P := P) (b := false) hl hh hk w
        rw [hd, Option.map_some]
        have hrun : (Instr.sliceAt t (.pointer (some ⟨d, off, none⟩)) (lo.map a.eval) (hi.map a.eval) (Option.map a.eval none)).run P w =
            .ok (.slice (some (if n0 = l then ⟨d, off, none⟩ else (⟨d, off, none⟩ : Addr).add (l * z.size))) (hh' - l) (n0 - l)) w := by
          unfold Instr.sliceAt
          rw [Sem.run_bind, run_underlying hu, Result.andThen_ok]
          simp only []
          rw [Sem.run_bind]
          simp only [Instr.sureAddr, Sem.run_pure, Result.andThen_ok]
          rw [Sem.run_bind, Option.map_none, hr, Result.andThen_ok]
          simp only []
          rw [Sem.run_bind, run_sizeOf_of ty.info, Result.andThen_ok, ty.size]
          simp
        rcases hk with ⟨_, rfl, hk⟩ | ⟨i, _, rfl, hk⟩
        · refine Gives.same k hrun (.inr ⟨by simpa [wf, wf1, sc] using hw, ?_⟩) hk
          simp [den, hd, Addr.add]
        · rcases offK_or hk with ⟨rfl, hk⟩ | ⟨hne, hk⟩
          · refine Gives.same k hrun (.inr ⟨by simpa [wf, wf1, sc] using hw, ?_⟩) hk
            simp [den, hd]
          · refine Gives.same k hrun (.inr ⟨by simpa [wf, wf1, sc] using hw, ?_⟩) hk
            simp [den, hd, if_neg hne, Addr.add_mid]
    · exact hk.elim
  · rename_i s
    obtain ⟨hw, he⟩ := hv.of rfl
    simp only [den] at he; rw [he]
    obtain ⟨ty, hty, hk⟩ := tyK_ok hk
    split at hk
    · rename_i hkd
      obtain ⟨d, hd, hdk⟩ := under_kind hT hty (by rw [hkd]; rfl)
      rw [hkd] at hdk
      obtain rfl := tk_str hdk
      obtain ⟨l, hh', hr, hk⟩ := run_bounds (P := P) (b := false) hl hh hk w
      have hrun : (Instr.sliceAt t (.string s) (lo.map a.eval) (hi.map a.eval) (Option.map a.eval none)).run P w = .ok (.string (s.extract l hh')) w := by
        unfold Instr.sliceAt
        rw [Sem.run_bind, run_underlying hd, Result.andThen_ok]
        simp only []
        unfold Instr.slice
        rw [Sem.run_bind, run_underlying hd, Result.andThen_ok]
        simp only [Option.map_none, Option.isSome_none, Bool.false_eq_true, if_false]
        simp [hr]
      rcases hk with ⟨_, rfl, hk⟩ | ⟨i, _, rfl, hk⟩
      · exact Gives.same k hrun (fit_str _) hk
      · exact Gives.same k hrun (fit_str _) hk
    · exact hk.elim
  · exact hk.elim
end Go.VM
