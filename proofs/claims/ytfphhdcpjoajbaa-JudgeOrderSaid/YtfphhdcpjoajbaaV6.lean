/- What the single operations do, over virtual values: arithmetic, tests, lengths, parts. -/
import Derived.Test.YtfphhdcpjoajbaaV5
namespace Go.VM
open Go.RowKit
variable {P : Program} {T : List Ty} {o : Oper} {f : List VV} {h : Heap} {K : VV → Heap → Prop}

def sameK : IntKind → IntKind → Bool
  | .i8, .i8 | .i16, .i16 | .i32, .i32 | .i64, .i64 | .u8, .u8 | .u16, .u16 | .u32, .u32 | .u64, .u64 => true
  | _, _ => false
theorem sameK_eq {a b : IntKind} (h : sameK a b = true) : a = b := by cases a <;> cases b <;> simp [sameK] at h <;> rfl
def bitsK (op : BinOp) (k : IntKind) (a b : Int) : Int :=
  match op with
  | .and => k.wrap ((BitVec.ofInt k.bits a &&& BitVec.ofInt k.bits b).toNat : Int)
  | .or => k.wrap ((BitVec.ofInt k.bits a ||| BitVec.ofInt k.bits b).toNat : Int)
  | .xor => k.wrap ((BitVec.ofInt k.bits a ^^^ BitVec.ofInt k.bits b).toNat : Int)
  | _ => k.wrap ((BitVec.ofInt k.bits a &&& ~~~BitVec.ofInt k.bits b).toNat : Int)
def condK (b : Bool) (A B : Prop) : Prop := match b with
  | true => A
  | false => B
def intK (op : BinOp) (k k' : IntKind) (a b : Int) (K : VV → Prop) : Prop :=
  match op with
  | .shl => 0 ≤ b ∧ K (.int k (k.wrap (a * 2 ^ (min b.toNat k.bits))))
  | .shr => 0 ≤ b ∧ K (.int k (a.fdiv (2 ^ (min b.toNat k.bits))))
  | .add => condK (sameK k k') (K (.int k (k.wrap (a + b)))) False
  | .sub => condK (sameK k k') (K (.int k (k.wrap (a - b)))) False
  | .mul => condK (sameK k k') (K (.int k (k.wrap (a * b)))) False
  | .quo => condK (sameK k k') (b ≠ 0 ∧ K (.int k (k.wrap (a.tdiv b)))) False
  | .rem => condK (sameK k k') (b ≠ 0 ∧ K (.int k (a.tmod b))) False
  | .and => condK (sameK k k') (K (.int k (bitsK .and k a b))) False
  | .or => condK (sameK k k') (K (.int k (bitsK .or k a b))) False
  | .xor => condK (sameK k k') (K (.int k (bitsK .xor k a b))) False
  | .andNot => condK (sameK k k') (K (.int k (bitsK .andNot k a b))) False
  | .eql => condK (sameK k k') (K (.bool (a == b))) False
  | .neq => condK (sameK k k') (K (.bool (a != b))) False
  | .lss => condK (sameK k k') (K (.bool (decide (a < b)))) False
  | .leq => condK (sameK k k') (K (.bool (decide (a ≤ b)))) False
  | .gtr => condK (sameK k k') (K (.bool (decide (a > b)))) False
  | .geq => condK (sameK k k') (K (.bool (decide (a ≥ b)))) False
theorem condK_of {b : Bool} {A : Prop} (h : condK b A False) : b = true ∧ A := by cases b <;> simp [condK] at h ⊢; exact h
theorem intK_ok {op : BinOp} {k k' : IntKind} {a b : Int} {K : VV → Prop} (hk : intK op k k' a b K) (t : TypeId) (x y : Operand) (w : World) :
    ∃ v : VV, (do eqGuard op t x y (.int k a) (.int k' b); binOp op t (.int k a) (.int k' b) : Sem Value).run P w = .ok (den (fun _ => none) v) w ∧ (∀ n, wf n v) ∧ (∀ σ, den σ v = den (fun _ => none) v) ∧ K v := by
  cases op <;> simp only [intK] at hk
  case shl | shr =>
    refine ⟨_, ?_, ?_, ?_, hk.2⟩
    · have : ¬ b < 0 := by omega
      simp [eqGuard, binOp, Op.shift, this, den]
    · intro n; simp [wf, wf1, sc]
    · intro σ; simp [den]
  case quo | rem =>
    have hs := condK_of hk
    clear hk
    obtain rfl := sameK_eq hs.1
    refine ⟨_, ?_, ?_, ?_, hs.2.2⟩
    · simp [eqGuard, binOp, Op.intDiv, hs.2.1, den]
    · intro n; simp [wf, wf1, sc]
    · intro σ; simp [den]
  all_goals
    have hs := condK_of hk
    clear hk
    obtain rfl := sameK_eq hs.1
    refine ⟨_, ?_, ?_, ?_, hs.2⟩
    · simp [eqGuard, binOp, Op.intArith, Op.intBits, Op.intCmp, bitsK, den]
    · intro n; simp [wf, wf1, sc]
    · intro σ; simp [den]

def strEq (a b : ByteArray) : Bool := a.toList == b.toList
def strLt (a b : ByteArray) : Bool := Op.bytesLess a.toList b.toList
def strK (op : BinOp) (a b : ByteArray) (K : VV → Prop) : Prop :=
  match op with
  | .add => ((a.size + b.size : Nat) : Int) ≤ IntKind.i64.max ∧ K (.str (a ++ b))
  | .eql => K (.bool (strEq a b))
  | .neq => K (.bool (!strEq a b))
  | .lss => K (.bool (strLt a b))
  | .leq => K (.bool (strLt a b || strEq a b))
  | .gtr => K (.bool (!(strLt a b || strEq a b)))
  | .geq => K (.bool (!strLt a b))
  | _ => False
theorem strK_ok {op : BinOp} {a b : ByteArray} {K : VV → Prop} (hk : strK op a b K) (t : TypeId) (x y : Operand) (w : World) :
    ∃ v : VV, (do eqGuard op t x y (.string a) (.string b); binOp op t (.string a) (.string b) : Sem Value).run P w = .ok (den (fun _ => none) v) w ∧ (∀ n, wf n v) ∧ (∀ σ, den σ v = den (fun _ => none) v) ∧ K v := by
  cases op <;> simp only [strK] at hk <;> try exact hk.elim
  case add =>
    refine ⟨_, ?_, ?_, ?_, hk.2⟩
    · have : ¬ ((a.size + b.size : Nat) : Int) > IntKind.i64.max := by omega
      simp only [eqGuard, binOp, Op.stringOp, den, if_neg this]
      simp
    · intro n; simp [wf, wf1, sc]
    · intro σ; simp [den]
  all_goals
    refine ⟨_, ?_, ?_, ?_, hk⟩
    · simp [eqGuard, binOp, Op.stringOp, den, strEq, strLt]
    · intro n; simp [wf, wf1, sc]
    · intro σ; simp [den]

/-- is it nothing? (of what lies at b) -/
def nilK (h : Heap) (b : Nat) (K : Bool → Prop) : Prop :=
  match b with
  | 0 => K true
  | b + 1 => findK h.es (b + 1) fun o => match o with
    | .map _ => K false
    | o => liveK o (K false)
theorem nilK_ok {σ : Sig} {w : World} (k : Ok σ h w) {b : Nat} {K : Bool → Prop} (hk : nilK h b K) : ∃ r, (σ b).isNone = r ∧ K r := by
  cases b with
  | zero => exact ⟨true, by rw [k.nil]; rfl, hk⟩
  | succ b =>
    obtain ⟨o, ho, hk⟩ := findK_ok hk
    have hok := (k.obj _ ho).2.2
    cases o with
    | map es =>
      refine ⟨false, ?_, hk⟩
      simp only [OkObj] at hok
      cases hs : σ (b + 1) with
      | none => rw [hs] at hok; exact hok.elim
      | some d => rfl
    | row cs t m =>
      obtain ⟨⟨d, hd⟩, hk⟩ := liveK_ok hok hk
      exact ⟨false, by rw [hd]; rfl, hk⟩
    | ro off cs =>
      obtain ⟨⟨d, hd⟩, hk⟩ := liveK_ok hok hk
      exact ⟨false, by rw [hd]; rfl, hk⟩
def eqB (op : BinOp) (r : Bool) (K : VV → Prop) : Prop :=
  match op with
  | .eql => K (.bool r)
  | .neq => K (.bool (!r))
  | _ => False
def binK (T : List Ty) (op : BinOp) (t : TypeId) (h : Heap) (x y : VV) (K : VV → Prop) : Prop :=
  match x with
  | .int k a => match y with
    | .int k' b => intK op k k' a b K
    | _ => False
  | .str a => match y with
    | .str b => strK op a b K
    | _ => False
  | .bool a => match y with
    | .bool b => tyK T t fun ty => match ty.kind with
      | .bool => eqB op (a == b) K
      | _ => False
    | _ => False
  | .ptr b _ => match y with
    | .ptr b' _ => tyK T t fun ty => match ty.kind with
      | .ptr _ => (match b' with
        | 0 => nilK h b fun r => eqB op r K
        | b' + 1 => (match b with
          | 0 => nilK h (b' + 1) fun r => eqB op r K
          | _ + 1 => False))
      | _ => False
    | _ => False
  | .sl b _ _ _ => match y with
    | .sl b' _ _ _ => tyK T t fun ty => match ty.kind with
      | .slice _ => (match b' with
        | 0 => nilK h b fun r => eqB op r K
        | _ + 1 => False)
      | _ => False
    | _ => False
  | .map b => match y with
    | .map b' => tyK T t fun ty => match ty.kind with
      | .map _ _ => (match b' with
        | 0 => nilK h b fun r => eqB op r K
        | _ + 1 => False)
      | _ => False
    | _ => False
  | _ => False
theorem run_equal_of {t : TypeId} {x y : Value} {w : World} {r : Bool} (h : ∀ d, (Op.equalIn (d + 1) t x y).run P w = .ok r w) : (Op.equal t x y).run P w = .ok r w := h 9999
theorem run_equal_bool {t : TypeId} (hd : P.underlying t = some .bool) (a b : Bool) (w : World) : (Op.equal t (.bool a) (.bool b)).run P w = .ok (a == b) w := run_equal_of fun d => by
  rw [Op.equalIn, Sem.run_bind, run_underlying hd, Result.andThen_ok]; simp
theorem run_equal_nilp {t e : TypeId} (hd : P.underlying t = some (.pointer e)) (a : Option Addr) (w : World) : (Op.equal t (.pointer a) (.pointer none)).run P w = .ok a.isNone w := run_equal_of fun d => by
  rw [Op.equalIn, Sem.run_bind, run_underlying hd, Result.andThen_ok]; cases a <;> simp
theorem run_equal_pnil {t e : TypeId} (hd : P.underlying t = some (.pointer e)) (a : Option Addr) (w : World) : (Op.equal t (.pointer none) (.pointer a)).run P w = .ok a.isNone w := run_equal_of fun d => by
  rw [Op.equalIn, Sem.run_bind, run_underlying hd, Result.andThen_ok]; cases a <;> simp
theorem run_equal_nils {t e : TypeId} (hd : P.underlying t = some (.slice e)) (a : Option Addr) (n c n' c' : Nat) (w : World) : (Op.equal t (.slice a n c) (.slice none n' c')).run P w = .ok a.isNone w := run_equal_of fun d => by
  rw [Op.equalIn, Sem.run_bind, run_underlying hd, Result.andThen_ok]; cases a <;> simp
theorem run_equal_nilm {t e e' : TypeId} (hd : P.underlying t = some (.map e e')) (a : Option Nat) (w : World) : (Op.equal t (.map a) (.map none)).run P w = .ok a.isNone w := run_equal_of fun d => by
  rw [Op.equalIn, Sem.run_bind, run_underlying hd, Result.andThen_ok]; cases a <;> simp
theorem eqB_ok {op : BinOp} {r : Bool} {K : VV → Prop} (hk : eqB op r K) {t : TypeId} {x y : Operand} {u v : Value} {w : World}
    (hg : op = .eql ∨ op = .neq → (eqGuard op t x y u v).run P w = .ok () w) (he : (Op.equal t u v).run P w = .ok r w)
    (h1 : ∀ k a, u ≠ .int k a) (h2 : ∀ s, u ≠ .string s) (h3 : ∀ k a, u ≠ .float k a) (h4 : ∀ k a b, u ≠ .complex k a b) :
    ∃ v' : VV, (do eqGuard op t x y u v; binOp op t u v : Sem Value).run P w = .ok (den (fun _ => none) v') w ∧ (∀ n, wf n v') ∧ (∀ σ, den σ v' = den (fun _ => none) v') ∧ K v' := by
  cases op <;> simp only [eqB] at hk <;> try exact hk.elim
  · refine ⟨_, ?_, ?_, ?_, hk⟩
    · rw [Sem.run_bind, hg (.inl rfl), Result.andThen_ok]
      have : binOp .eql t u v = (do Pure.pure (.bool (← Op.equal t u v))) := by
        cases u <;> first | exact absurd rfl (h1 _ _) | exact absurd rfl (h2 _) | exact absurd rfl (h3 _ _) | exact absurd rfl (h4 _ _ _) | rfl
      rw [this, Sem.run_bind, he]
      simp [den]
    · intro n; simp [wf, wf1, sc]
    · intro σ; simp [den]
  · refine ⟨_, ?_, ?_, ?_, hk⟩
    · rw [Sem.run_bind, hg (.inr rfl), Result.andThen_ok]
      have : binOp .neq t u v = (do Pure.pure (.bool (!(← Op.equal t u v)))) := by
        cases u <;> first | exact absurd rfl (h1 _ _) | exact absurd rfl (h2 _) | exact absurd rfl (h3 _ _) | exact absurd rfl (h4 _ _ _) | rfl
      rw [this, Sem.run_bind, he]
      simp [den]
    · intro n; simp [wf, wf1, sc]
    · intro σ; simp [den]
theorem under_kind {t : TypeId} {y : Ty} (hT : TOk P T) (hy : T[t]? = some y) (hg : y.kind.good = true) : ∃ d, P.underlying t = some d ∧ tk P d = y.kind := by
  obtain ⟨i, d, z, ty⟩ := hT.get hy hg
  exact ⟨d, ty.under, ty.kind⟩
theorem binK_ok {σ : Sig} {w : World} (hT : TOk P T) (k : Ok σ h w) {op : BinOp} {t : TypeId} {a b : VV} {u v : Value} (ha : FitV σ h.n a u) (hb : FitV σ h.n b v) {K : VV → Prop} (hk : binK T op t h a b K) (x y : Operand) :
    ∃ v' : VV, (do eqGuard op t x y u v; binOp op t u v : Sem Value).run P w = .ok (den (fun _ => none) v') w ∧ (∀ n, wf n v') ∧ (∀ σ, den σ v' = den (fun _ => none) v') ∧ K v' := by
  cases a <;> simp only [binK] at hk <;> try exact hk.elim
  case int k' i =>
    obtain ⟨_, rfl⟩ := ha.of rfl
    split at hk
    · obtain ⟨_, rfl⟩ := hb.of rfl
      simp only [den]
      exact intK_ok hk t x y w
    · exact hk.elim
  case str s =>
    obtain ⟨_, rfl⟩ := ha.of rfl
    split at hk
    · obtain ⟨_, rfl⟩ := hb.of rfl
      simp only [den]
      exact strK_ok hk t x y w
    · exact hk.elim
  case bool s =>
    obtain ⟨_, rfl⟩ := ha.of rfl
    split at hk
    · obtain ⟨_, rfl⟩ := hb.of rfl
      obtain ⟨ty, hty, hk⟩ := tyK_ok hk
      split at hk
      · rename_i hkd
        obtain ⟨d, hd, hdk⟩ := under_kind hT hty (by rw [hkd]; rfl)
        rw [hkd] at hdk
        obtain rfl := tk_bool hdk
        simp only [den]
        refine eqB_ok hk (fun _ => by cases op <;> simp [eqGuard]) ?_ (by simp) (by simp) (by simp) (by simp)
        exact run_equal_bool hd _ _ _
      · exact hk.elim
    · exact hk.elim
  case ptr p o' =>
    obtain ⟨_, rfl⟩ := ha.of rfl
    split at hk
    · obtain ⟨_, rfl⟩ := hb.of rfl
      obtain ⟨ty, hty, hk⟩ := tyK_ok hk
      split at hk
      · rename_i hkd
        obtain ⟨d, hd, hdk⟩ := under_kind hT hty (by rw [hkd]; rfl)
        rw [hkd] at hdk
        obtain rfl := tk_ptr hdk
        simp only [den]
        split at hk
        · obtain ⟨r, hr, hk⟩ := nilK_ok k hk
          refine eqB_ok hk (fun _ => by cases op <;> simp [eqGuard]) ?_ (by simp) (by simp) (by simp) (by simp)
          rw [k.nil, ← hr]
          have := run_equal_nilp (P := P) hd ((σ p).map fun d => ⟨d, o', none⟩) w
          rw [Option.isNone_map] at this
          exact this
        · split at hk
          · obtain ⟨r, hr, hk⟩ := nilK_ok k hk
            refine eqB_ok hk (fun _ => by cases op <;> simp [eqGuard]) ?_ (by simp) (by simp) (by simp) (by simp)
            rw [k.nil, ← hr]
            refine (run_equal_pnil (P := P) hd _ w).trans ?_
            rw [Option.isNone_map]
          · exact hk.elim
      · exact hk.elim
    · exact hk.elim
  case sl p o' n c =>
    obtain ⟨_, rfl⟩ := ha.of rfl
    split at hk
    · obtain ⟨_, rfl⟩ := hb.of rfl
      obtain ⟨ty, hty, hk⟩ := tyK_ok hk
      split at hk
      · rename_i hkd
        obtain ⟨d, hd, hdk⟩ := under_kind hT hty (by rw [hkd]; rfl)
        rw [hkd] at hdk
        obtain rfl := tk_slice hdk
        simp only [den]
        split at hk
        · obtain ⟨r, hr, hk⟩ := nilK_ok k hk
          refine eqB_ok hk (fun _ => by cases op <;> simp [eqGuard]) ?_ (by simp) (by simp) (by simp) (by simp)
          rw [k.nil, ← hr]
          refine (run_equal_nils (P := P) hd _ _ _ _ _ w).trans ?_
          rw [Option.isNone_map]
        · exact hk.elim
      · exact hk.elim
    · exact hk.elim
  case map p =>
    obtain ⟨_, rfl⟩ := ha.of rfl
    split at hk
    · obtain ⟨_, rfl⟩ := hb.of rfl
      obtain ⟨ty, hty, hk⟩ := tyK_ok hk
      split at hk
      · rename_i hkd
        obtain ⟨d, hd, hdk⟩ := under_kind hT hty (by rw [hkd]; rfl)
        rw [hkd] at hdk
        obtain rfl := tk_map hdk
        simp only [den]
        split at hk
        · obtain ⟨r, hr, hk⟩ := nilK_ok k hk
          refine eqB_ok hk (fun _ => by cases op <;> simp [eqGuard]) ?_ (by simp) (by simp) (by simp) (by simp)
          rw [k.nil, ← hr]
          exact run_equal_nilm (P := P) hd (σ p) w
        · exact hk.elim
      · exact hk.elim
    · exact hk.elim
theorem sem_binOp {op : BinOp} {t t' : TypeId} {x y : Operand} (hT : TOk P T) (ho : o.op = .binOp op t x y t') (hk : evK f x fun v => evK f y fun u => binK T op t h v u fun r => K r h) : SemOp P o f h K := by
  refine SemOp.value fun σ a w k hf => ?_
  obtain ⟨v, hv, hk⟩ := evK_ok k hf hk
  obtain ⟨u, hu, hk⟩ := evK_ok k hf hk
  obtain ⟨r, hr, hw, hd, hk⟩ := binK_ok hT k hv hu hk x y
  exact ⟨_, by unfold execOp; rw [ho], Gives.same k hr (.inr ⟨hw _, (hd σ).symm⟩) hk⟩
def unK (op : UnOp) (v : VV) (K : VV → Prop) : Prop :=
  match op, v with
  | .not, .bool b => K (.bool (!b))
  | .neg, .int k n => K (.int k (k.wrap (0 - n)))
  | .xor, .int k n => K (.int k (bitsK .xor k (if k.signed then -1 else k.max) n))
  | _, _ => False
theorem sem_unOp {op : UnOp} {t : TypeId} {x : Operand} (ho : o.op = .unOp op t x) (hk : evK f x fun v => unK op v fun v => K v h) : SemOp P o f h K := by
  refine SemOp.value fun σ a w k hf => ?_
  obtain ⟨v, hv, hk1⟩ := evK_ok k hf hk
  clear hk
  refine ⟨_, by unfold execOp; rw [ho], ?_⟩
  unfold unK at hk1
  split at hk1
  · obtain ⟨_, he⟩ := hv.of rfl
    simp only [den] at he; rw [he]
    exact Gives.same k (by simp [Op.unary]) (fit_bool _) hk1
  · obtain ⟨_, he⟩ := hv.of rfl
    simp only [den] at he; rw [he]
    exact Gives.same k (by simp [Op.unary, Op.intArith]) (fit_int _ _) hk1
  · obtain ⟨_, he⟩ := hv.of rfl
    simp only [den] at he; rw [he]
    exact Gives.same k (by simp [Op.unary, Op.intBits, bitsK]) (fit_int _ _) hk1
  · exact hk1.elim
end Go.VM
