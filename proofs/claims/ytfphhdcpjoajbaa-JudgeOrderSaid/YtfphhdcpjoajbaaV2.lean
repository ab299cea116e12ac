/- Frames, types, lists taken apart step by step, and what loads and stores do to blocks. -/
import Derived.Test.YtfphhdcpjoajbaaV1
namespace Go.VM
open Go.RowKit

/-! ### Lists, with what goes on -/
def getF : List VV → Nat → (VV → Prop) → Prop
  | [], _, _ => False
  | v :: _, 0, K => K v
  | _ :: f, n + 1, K => getF f n K
theorem getF_ok : ∀ {f : List VV} {i : Nat} {K : VV → Prop}, getF f i K → ∃ v, f[i]? = some v ∧ K v
  | [], _, _, h => h.elim
  | v :: _, 0, _, h => ⟨v, rfl, h⟩
  | _ :: f, n + 1, K, h => by simpa using getF_ok (f := f) (i := n) (K := K) h
theorem getF_of : ∀ {f : List VV} {i : Nat} {K : VV → Prop} {v : VV}, f[i]? = some v → K v → getF f i K
  | [], _, _, _, e, _ => by simp at e
  | u :: _, 0, _, v, e, h => by simp at e; subst e; exact h
  | _ :: f, n + 1, K, v, e, h => getF_of (f := f) (i := n) (by simpa using e) h
def setF : List VV → Nat → VV → (List VV → Prop) → Prop
  | [], _, _, K => K []
  | _ :: f, 0, v, K => K (v :: f)
  | u :: f, n + 1, v, K => setF f n v fun f => K (u :: f)
theorem setF_iff : ∀ {f : List VV} {i : Nat} {v : VV} {K : List VV → Prop}, setF f i v K ↔ K (f.set i v)
  | [], _, _, _ => by simp [setF]
  | _ :: _, 0, _, _ => by simp [setF]
  | u :: f, n + 1, v, K => by simp [setF, setF_iff (f := f)]
def takeN : List VV → Nat → (List VV → Prop) → Prop
  | _, 0, K => K []
  | [], _ + 1, _ => False
  | c :: cs, n + 1, K => takeN cs n fun l => K (c :: l)
theorem takeN_iff : ∀ {cs : List VV} {n : Nat} {K : List VV → Prop}, takeN cs n K ↔ n ≤ cs.length ∧ K (cs.take n)
  | cs, 0, K => by cases cs <;> simp [takeN]
  | [], _ + 1, _ => by simp [takeN]
  | c :: cs, n + 1, K => by simp [takeN, takeN_iff (cs := cs)]
def takeC : List VV → Nat → Nat → (List VV → Prop) → Prop
  | cs, 0, n, K => takeN cs n K
  | [], _ + 1, _, _ => False
  | _ :: cs, o + 1, n, K => takeC cs o n K
theorem takeC_ok : ∀ {cs : List VV} {o n : Nat} {K : List VV → Prop}, takeC cs o n K → o + n ≤ cs.length ∧ K ((cs.drop o).take n)
  | cs, 0, n, K, h => by simpa [takeC, takeN_iff] using h
  | [], _ + 1, _, _, h => by simp [takeC] at h
  | _ :: cs, o + 1, n, K, h => by have := takeC_ok (cs := cs) h; simp; exact ⟨by omega, this.2⟩
theorem takeC_of : ∀ {cs : List VV} {o n : Nat} {K : List VV → Prop}, o + n ≤ cs.length → K ((cs.drop o).take n) → takeC cs o n K
  | cs, 0, n, K, h, k => by simp [takeC, takeN_iff]; exact ⟨by omega, by simpa using k⟩
  | [], _ + 1, _, _, h, _ => by simp at h
  | _ :: cs, o + 1, n, K, h, k => by
    simp only [takeC]
    exact takeC_of (cs := cs) (by simp at h; omega) (by simpa using k)
def putN : List VV → List VV → (List VV → Prop) → Prop
  | cs, [], K => K cs
  | [], _ :: _, _ => False
  | _ :: cs, u :: us, K => putN cs us fun l => K (u :: l)
theorem putN_iff : ∀ {cs us : List VV} {K : List VV → Prop}, putN cs us K ↔ us.length ≤ cs.length ∧ K (us ++ cs.drop us.length)
  | cs, [], K => by simp [putN]
  | [], _ :: _, _ => by simp [putN]
  | _ :: cs, u :: us, K => by simp [putN, putN_iff (cs := cs)]
def putC : List VV → Nat → List VV → (List VV → Prop) → Prop
  | cs, 0, us, K => putN cs us K
  | [], _ + 1, _, _ => False
  | c :: cs, o + 1, us, K => putC cs o us fun l => K (c :: l)
theorem putC_ok : ∀ {cs : List VV} {o : Nat} {us : List VV} {K : List VV → Prop}, putC cs o us K → o + us.length ≤ cs.length ∧ K (cs.take o ++ us ++ cs.drop (o + us.length))
  | cs, 0, us, K, h => by simpa [putC, putN_iff] using h
  | [], _ + 1, _, _, h => by simp [putC] at h
  | c :: cs, o + 1, us, K, h => by
    have := putC_ok (cs := cs) h
    refine ⟨by simp; omega, ?_⟩
    have e : o + 1 + us.length = (o + us.length) + 1 := by omega
    simpa [e] using this.2
theorem putC_of : ∀ {cs : List VV} {o : Nat} {us : List VV} {K : List VV → Prop}, o + us.length ≤ cs.length → K (cs.take o ++ us ++ cs.drop (o + us.length)) → putC cs o us K
  | cs, 0, us, K, h, k => by simp [putC, putN_iff]; exact ⟨by omega, by simpa using k⟩
  | [], _ + 1, _, _, h, _ => by simp at h
  | c :: cs, o + 1, us, K, h, k => by
    simp only [putC]
    refine putC_of (cs := cs) (by simp at h; omega) ?_
    have e : o + 1 + us.length = (o + us.length) + 1 := by omega
    simpa [e] using k

def findK : List (Nat × VObj) → Nat → (VObj → Prop) → Prop
  | [], _, _ => False
  | (i, o) :: es, b, K => match Nat.beq i b with
    | true => K o
    | false => findK es b K
theorem findK_ok : ∀ {es : List (Nat × VObj)} {b : Nat} {K : VObj → Prop}, findK es b K → ∃ o, (b, o) ∈ es ∧ K o
  | [], _, _, h => h.elim
  | (i, o) :: es, b, K, h => by
    simp only [findK] at h
    cases hb : Nat.beq i b <;> simp only [hb] at h
    · obtain ⟨o', h1, h2⟩ := findK_ok h
      exact ⟨o', List.mem_cons_of_mem _ h1, h2⟩
    · obtain rfl := Nat.eq_of_beq_eq_true hb
      exact ⟨o, List.mem_cons_self, h⟩
def updK : List (Nat × VObj) → Nat → VObj → (List (Nat × VObj) → Prop) → Prop
  | [], _, _, _ => False
  | (i, o) :: es, b, n, K => match Nat.beq i b with
    | true => K ((i, n) :: es)
    | false => updK es b n fun es => K ((i, o) :: es)
theorem updK_ok : ∀ {es : List (Nat × VObj)} {b : Nat} {n : VObj} {K : List (Nat × VObj) → Prop}, updK es b n K → ∃ l o r, es = l ++ (b, o) :: r ∧ (∀ e ∈ l, e.1 ≠ b) ∧ K (l ++ (b, n) :: r)
  | [], _, _, _, h => h.elim
  | (i, o) :: es, b, n, K, h => by
    simp only [updK] at h
    cases hb : Nat.beq i b <;> simp only [hb] at h
    · obtain ⟨l, o', r, rfl, h1, h2⟩ := updK_ok h
      refine ⟨(i, o) :: l, o', r, rfl, ?_, h2⟩
      intro e he
      rcases List.mem_cons.1 he with rfl | he
      · exact Nat.ne_of_beq_eq_false hb
      · exact h1 e he
    · obtain rfl := Nat.eq_of_beq_eq_true hb
      exact ⟨[], o, es, rfl, by simp, h⟩
def remK : List (Nat × VObj) → Nat → (VObj → List (Nat × VObj) → Prop) → Prop
  | [], _, _ => False
  | (i, o) :: es, b, K => match Nat.beq i b with
    | true => K o es
    | false => remK es b fun o' es => K o' ((i, o) :: es)
theorem remK_ok : ∀ {es : List (Nat × VObj)} {b : Nat} {K : VObj → List (Nat × VObj) → Prop}, remK es b K → ∃ l o r, es = l ++ (b, o) :: r ∧ K o (l ++ r)
  | [], _, _, h => h.elim
  | (i, o) :: es, b, K, h => by
    simp only [remK] at h
    cases hb : Nat.beq i b <;> simp only [hb] at h
    · obtain ⟨l, o', r, rfl, h2⟩ := remK_ok h
      exact ⟨(i, o) :: l, o', r, rfl, h2⟩
    · obtain rfl := Nat.eq_of_beq_eq_true hb
      exact ⟨[], o, es, rfl, h⟩

/-! ### Frames -/
def FitV (σ : Sig) (n : Nat) (v : VV) (u : Value) : Prop := v = .any ∨ (wf n v ∧ u = den σ v)
def FRel (σ : Sig) (n : Nat) (f : List VV) (t : Array Value) : Prop := f.length = t.size ∧ ∀ i v, f[i]? = some v → FitV σ n v (t.getD i undef)
theorem FitV.step {σ σ' : Sig} {h h' : Heap} {w w' : World} (s : Step σ h w σ' h' w') {v : VV} {u : Value} (k : FitV σ h.n v u) : FitV σ' h'.n v u := by
  rcases k with k | ⟨k, e⟩
  · exact .inl k
  · exact .inr ⟨wf_mono s.le v k, by rw [e, den_agree s.agree v k]⟩
theorem FRel.step {σ σ' : Sig} {h h' : Heap} {w w' : World} (s : Step σ h w σ' h' w') {f : List VV} {t : Array Value} (k : FRel σ h.n f t) : FRel σ' h'.n f t :=
  ⟨k.1, fun i v hv => (k.2 i v hv).step s⟩
theorem FRel.put {σ : Sig} {n : Nat} {f : List VV} {t : Array Value} (k : FRel σ n f t) {v : VV} {u : Value} (hv : FitV σ n v u) (d : Nat) : FRel σ n (f.set d v) (t.setIfInBounds d u) := by
  refine ⟨by simp [k.1], fun i x hx => ?_⟩
  rw [List.getElem?_set] at hx
  split at hx
  · rename_i e; subst e
    split at hx
    · cases hx
      rename_i hl
      have : d < t.size := by rw [← k.1]; exact hl
      simpa [this] using hv
    · cases hx
  · have := k.2 i x hx
    rename_i hne
    rw [Array.getD_eq_getD_getElem?, Array.getElem?_setIfInBounds_ne hne, ← Array.getD_eq_getD_getElem?]
    exact this

def ofV : Value → VV
  | .int k n => .int k n
  | .bool b => .bool b
  | .string s => .str s
  | .pointer none => .ptr 0 0
  | .slice none n c => .sl 0 0 n c
  | .map none => .map 0
  | .nilFunc => .nilf
  | .nilIface => .nili
  | .tuple ⟨[]⟩ => .tup []
  | _ => .any
theorem ofV_fit {σ : Sig} {n : Nat} (h0 : σ 0 = none) (hn : 1 ≤ n) (v : Value) : FitV σ n (ofV v) v := by
  unfold ofV
  split <;> first | exact .inl rfl | (refine .inr ⟨?_, ?_⟩ <;> simp [wf, wf1, sc, den, denL, h0] <;> omega)
def evK (f : List VV) (x : Operand) (K : VV → Prop) : Prop :=
  match x with
  | .tmp t => getF f t K
  | .const v => K (ofV v)
  | .func g => K (.fn g [])
  | .global _ => False
theorem evK_ok {σ : Sig} {h : Heap} {w : World} (k : Ok σ h w) {f : List VV} {a : Act} (hf : FRel σ h.n f a.tmps) {x : Operand} {K : VV → Prop} (he : evK f x K) : ∃ v, FitV σ h.n v (a.eval x) ∧ K v := by
  cases x with
  | tmp t =>
    obtain ⟨v, hv, hk⟩ := getF_ok he
    exact ⟨v, hf.2 t v hv, hk⟩
  | const v => exact ⟨_, ofV_fit k.nil k.pos v, he⟩
  | func g => exact ⟨_, .inr ⟨by simp [wf, wf1, sc, scL], by simp [den, denL, Act.eval]⟩, he⟩
  | global g => exact he.elim
def evsK (f : List VV) : List Operand → (List VV → Prop) → Prop
  | [], K => K []
  | x :: xs, K => evK f x fun v => evsK f xs fun vs => K (v :: vs)
theorem evsK_ok {σ : Sig} {h : Heap} {w : World} (k : Ok σ h w) {f : List VV} {a : Act} (hf : FRel σ h.n f a.tmps) : ∀ {xs : List Operand} {K : List VV → Prop}, evsK f xs K →
    ∃ vs, vs.length = xs.length ∧ (∀ (i : Nat) v x, vs[i]? = some v → xs[i]? = some x → FitV σ h.n v (a.eval x)) ∧ K vs
  | [], K, he => ⟨[], rfl, by simp, he⟩
  | x :: xs, K, he => by
    obtain ⟨v, hv, he⟩ := evK_ok k hf he
    obtain ⟨vs, hl, hvs, hk⟩ := evsK_ok k hf he
    refine ⟨v :: vs, by simp [hl], ?_, hk⟩
    intro i u y hu hy
    cases i with
    | zero => simp at hu hy; subst hu; subst hy; exact hv
    | succ i => exact hvs i u y (by simpa using hu) (by simpa using hy)

/-! ### Types -/
inductive TK where
  | int (k : IntKind) | bool | str | ptr (e : TypeId) | slice (e : TypeId) | arr (n : Nat) (e : TypeId) | map (k e : TypeId) | struct (fs : List (Nat × Nat × TypeId)) | func | other
  deriving Inhabited
structure Ty where
  kind : TK
  size : Nat
  bytes : Nat
  zero : List VV
  deriving Inhabited
def TK.isAgg : TK → Bool
  | .arr .. | .struct _ => true
  | _ => false
def TK.good : TK → Bool
  | .other => false
  | _ => true
def tk (P : Program) : TypeDesc → TK
  | .int k => .int k
  | .bool => .bool
  | .string => .str
  | .pointer e => .ptr e
  | .slice e => .slice e
  | .array n e => .arr n e
  | .map k e => .map k e
  | .struct fs => if fs.toList.all (fun f => (P.info? f.type).isSome) then .struct (fs.toList.map fun f => (f.offset, ((P.info? f.type).map (·.size)).getD 0, f.type)) else .other
  | .func .. => .func
  | _ => .other
def VV.isAny : VV → Bool
  | .any => true
  | _ => false
def Value.isAgg : Value → Bool
  | .agg _ => true
  | _ => false
def VV.scalarB : VV → Bool
  | .int .. | .bool _ | .str _ | .nilf | .nili => true
  | .ptr b _ => b == 0
  | .sl b _ _ _ => b == 0
  | .map b => b == 0
  | _ => false
def mkTy (P : Program) (t : TypeId) : Ty :=
  match P.info? t, P.underlying t with
  | some i, some d => match i.zero with
    | some z =>
      let zs := z.cells.toList.map ofV
      if zs.all VV.scalarB && (z.cells.size == i.size) && (Value.isAgg z == (tk P d).isAgg) then ⟨tk P d, i.size, i.bytes, zs⟩ else ⟨.other, 0, 0, []⟩
    | none => ⟨.other, 0, 0, []⟩
  | _, _ => ⟨.other, 0, 0, []⟩
def TOk (P : Program) (T : List Ty) : Prop := ∀ t y, T[t]? = some y → mkTy P t = y
theorem TOk.of {P : Program} {T : List Ty} (h : T = (List.range T.length).map (mkTy P)) : TOk P T := fun t y hy => by
  rw [h] at hy
  rw [List.getElem?_map] at hy
  cases hr : (List.range T.length)[t]? with
  | none => rw [hr] at hy; simp at hy
  | some x =>
    rw [hr] at hy
    simp at hy
    have : x = t := by
      rw [List.getElem?_range] at hr
      · simpa using hr.symm
      · have := List.getElem?_eq_some_iff.1 hr
        simpa using this.1
    subst this; exact hy
def tyK : List Ty → Nat → (Ty → Prop) → Prop
  | [], _, _ => False
  | y :: _, 0, K => K y
  | _ :: T, n + 1, K => tyK T n K
theorem tyK_ok : ∀ {T : List Ty} {t : Nat} {K : Ty → Prop}, tyK T t K → ∃ y, T[t]? = some y ∧ K y
  | [], _, _, h => h.elim
  | y :: _, 0, _, h => ⟨y, rfl, h⟩
  | _ :: T, n + 1, K, h => by simpa using tyK_ok (T := T) (t := n) (K := K) h

structure TyIs (P : Program) (t : TypeId) (y : Ty) (i : TypeInfo) (d : TypeDesc) (z : Value) : Prop where
  info : P.info? t = some i
  under : P.underlying t = some d
  kind : tk P d = y.kind
  size : i.size = y.size
  bytes : i.bytes = y.bytes
  zero : i.zero = some z
  den : ∀ σ : Sig, σ 0 = none → denL σ y.zero = z.cells.toList
  sc : ∀ n, 1 ≤ n → scL n y.zero
  len : y.zero.length = y.size
  agg : Value.isAgg z = y.kind.isAgg
theorem VV.scalarB_sc {v : VV} (h : v.scalarB = true) {n : Nat} (hn : 1 ≤ n) : sc n v := by
  cases v <;> simp [VV.scalarB] at h <;> simp [VM.sc] <;> omega
theorem ofV_den {σ : Sig} (h0 : σ 0 = none) {v : Value} (h : (ofV v).scalarB = true) : den σ (ofV v) = v := by
  rcases ofV_fit (n := 1) h0 (Nat.le_refl _) v with e | ⟨_, e⟩
  · rw [e] at h; simp [VV.scalarB] at h
  · exact e.symm
theorem TOk.get {P : Program} {T : List Ty} (h : TOk P T) {t : TypeId} {y : Ty} (hy : T[t]? = some y) (hg : y.kind.good = true) : ∃ i d z, TyIs P t y i d z := by
  have e := h t y hy
  unfold mkTy at e
  split at e
  · rename_i i d hi hd
    split at e
    · rename_i z hz
      dsimp only at e
      split at e
      · rename_i hc
        simp only [Bool.and_eq_true, List.all_eq_true, beq_iff_eq] at hc
        obtain ⟨⟨h1, h2⟩, h3⟩ := hc
        subst e
        refine ⟨i, d, z, hi, hd, rfl, rfl, rfl, hz, ?_, ?_, ?_, h3⟩
        · intro σ h0
          rw [denL_eq, List.map_map]
          conv => rhs; rw [← List.map_id z.cells.toList]
          refine List.map_congr_left fun v hv => ?_
          exact ofV_den h0 (h1 _ (List.mem_map.2 ⟨v, hv, rfl⟩))
        · intro n hn
          rw [scL_iff]
          intro v hv
          exact VV.scalarB_sc (h1 v hv) hn
        · simp; exact h2
      · subst e; simp [TK.good] at hg
    · subst e; simp [TK.good] at hg
  · subst e; simp [TK.good] at hg
def zeroVV (y : Ty) : VV := match y.kind.isAgg with
  | true => .agg y.zero
  | false => y.zero.headD .any
theorem tk_slice {P : Program} {d : TypeDesc} {e : TypeId} (h : tk P d = .slice e) : d = .slice e := by
  cases d <;> simp only [tk] at h <;> first | (cases h; rfl) | cases h | (split at h <;> cases h)
theorem tk_arr {P : Program} {d : TypeDesc} {n : Nat} {e : TypeId} (h : tk P d = .arr n e) : d = .array n e := by
  cases d <;> simp only [tk] at h <;> first | (cases h; rfl) | cases h | (split at h <;> cases h)
theorem tk_map {P : Program} {d : TypeDesc} {n : TypeId} {e : TypeId} (h : tk P d = .map n e) : d = .map n e := by
  cases d <;> simp only [tk] at h <;> first | (cases h; rfl) | cases h | (split at h <;> cases h)
theorem tk_ptr {P : Program} {d : TypeDesc} {e : TypeId} (h : tk P d = .ptr e) : d = .pointer e := by
  cases d <;> simp only [tk] at h <;> first | (cases h; rfl) | cases h | (split at h <;> cases h)
theorem tk_bool {P : Program} {d : TypeDesc} (h : tk P d = .bool) : d = .bool := by
  cases d <;> simp only [tk] at h <;> first | rfl | cases h | (split at h <;> cases h)
theorem tk_str {P : Program} {d : TypeDesc} (h : tk P d = .str) : d = .string := by
  cases d <;> simp only [tk] at h <;> first | rfl | cases h | (split at h <;> cases h)
theorem tk_int {P : Program} {d : TypeDesc} {k : IntKind} (h : tk P d = .int k) : d = .int k := by
  cases d <;> simp only [tk] at h <;> first | (cases h; rfl) | cases h | (split at h <;> cases h)
theorem tk_struct {P : Program} {d : TypeDesc} {fs : List (Nat × Nat × TypeId)} (h : tk P d = .struct fs) : ∃ fields : Array Field, d = .struct fields ∧ (∀ f ∈ fields, ∃ i, P.info? f.type = some i) ∧
    fs = fields.toList.map fun f => (f.offset, ((P.info? f.type).map (·.size)).getD 0, f.type) := by
  cases d <;> simp only [tk] at h <;> try cases h
  rename_i fields
  split at h
  · rename_i hc
    cases h
    refine ⟨fields, rfl, fun f hf => ?_, rfl⟩
    exact Option.isSome_iff_exists.1 (List.all_eq_true.1 hc f (by simpa using hf))
  · cases h
end Go.VM
