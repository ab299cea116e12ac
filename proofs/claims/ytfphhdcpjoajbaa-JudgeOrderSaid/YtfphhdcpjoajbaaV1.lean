/- A machine of virtual values: blocks bear small numbers of their own; what a piece of code does is reckoned over them. -/
import Derived.WalkKit
import Derived.Below
namespace Go.VM
open Go.RowKit

inductive VV where
  | int (k : IntKind) (n : Int)
  | bool (b : Bool)
  | str (s : ByteArray)
  | ptr (b o : Nat)
  | sl (b o n c : Nat)
  | map (b : Nat)
  | fn (f : FuncId) (cap : List VV)
  | nilf
  | nili
  | agg (cs : List VV)
  | tup (vs : List VV)
  | any
  deriving Inhabited

abbrev Sig := Nat → Option Nat

mutual
def den (σ : Sig) : VV → Value
  | .int k n => .int k n
  | .bool b => .bool b
  | .str s => .string s
  | .ptr b o => .pointer ((σ b).map fun d => ⟨d, o, none⟩)
  | .sl b o n c => .slice ((σ b).map fun d => ⟨d, o, none⟩) n c
  | .map b => .map (σ b)
  | .fn f cap => .func (.func f) #[] (denL σ cap).toArray
  | .nilf => .nilFunc
  | .nili => .nilIface
  | .agg cs => .agg (denL σ cs).toArray
  | .tup vs => .tuple (denL σ vs).toArray
  | .any => .tuple #[]
def denL (σ : Sig) : List VV → List Value
  | [] => []
  | v :: vs => den σ v :: denL σ vs
end

mutual
/-- one cell, its numbers below n -/
def sc (n : Nat) : VV → Prop
  | .int _ _ | .bool _ | .str _ | .nilf | .nili => True
  | .ptr b _ => b < n
  | .sl b _ _ _ => b < n
  | .map b => b < n
  | .fn _ cap => scL n cap
  | .agg _ | .tup _ | .any => False
def scL (n : Nat) : List VV → Prop
  | [] => True
  | v :: vs => sc n v ∧ scL n vs
end

/-- a value, its numbers below n -/
def wf1 (n : Nat) : VV → Prop
  | .agg cs => scL n cs
  | v => sc n v
def wf (n : Nat) : VV → Prop
  | .tup vs => ∀ v ∈ vs, wf1 n v
  | v => wf1 n v

theorem denL_eq (σ : Sig) : ∀ l, denL σ l = l.map (den σ)
  | [] => by simp [denL]
  | v :: l => by simp [denL, denL_eq σ l]
theorem scL_iff (n : Nat) : ∀ l, scL n l ↔ ∀ v ∈ l, sc n v
  | [] => by simp [scL]
  | v :: l => by simp [scL, scL_iff n l]

mutual
theorem sc_mono {n m : Nat} (h : n ≤ m) : ∀ v, sc n v → sc m v
  | .int _ _, _ | .bool _, _ | .str _, _ | .nilf, _ | .nili, _ => by simp [sc]
  | .ptr b _, k => by simp [sc] at *; omega
  | .sl b _ _ _, k => by simp [sc] at *; omega
  | .map b, k => by simp [sc] at *; omega
  | .fn _ cap, k => by simp only [sc] at *; exact scL_mono h cap k
  | .agg _, k => by simp [sc] at k
  | .tup _, k => by simp [sc] at k
  | .any, k => by simp [sc] at k
theorem scL_mono {n m : Nat} (h : n ≤ m) : ∀ l, scL n l → scL m l
  | [], _ => by simp [scL]
  | v :: l, k => by simp only [scL] at *; exact ⟨sc_mono h v k.1, scL_mono h l k.2⟩
end
theorem wf1_mono {n m : Nat} (h : n ≤ m) (v : VV) (k : wf1 n v) : wf1 m v := by
  cases v <;> simp only [wf1] at * <;> first | exact scL_mono h _ k | exact sc_mono h _ k
theorem wf_mono {n m : Nat} (h : n ≤ m) (v : VV) (k : wf n v) : wf m v := by
  cases v <;> simp only [wf] at * <;> first | exact fun v hv => wf1_mono h v (k v hv) | exact wf1_mono h _ k

mutual
theorem den_agree_sc {σ τ : Sig} {n : Nat} (h : ∀ i, i < n → τ i = σ i) : ∀ v, sc n v → den τ v = den σ v
  | .int _ _, _ | .bool _, _ | .str _, _ | .nilf, _ | .nili, _ => by simp [den]
  | .ptr b _, k => by simp [sc] at k; simp [den, h b k]
  | .sl b _ _ _, k => by simp [sc] at k; simp [den, h b k]
  | .map b, k => by simp [sc] at k; simp [den, h b k]
  | .fn _ cap, k => by simp only [sc] at k; simp [den, den_agree_scL h cap k]
  | .agg _, k => by simp [sc] at k
  | .tup _, k => by simp [sc] at k
  | .any, k => by simp [sc] at k
theorem den_agree_scL {σ τ : Sig} {n : Nat} (h : ∀ i, i < n → τ i = σ i) : ∀ l, scL n l → denL τ l = denL σ l
  | [], _ => by simp [denL]
  | v :: l, k => by simp only [scL] at k; simp [denL, den_agree_sc h v k.1, den_agree_scL h l k.2]
end
theorem den_agree1 {σ τ : Sig} {n : Nat} (h : ∀ i, i < n → τ i = σ i) (v : VV) (k : wf1 n v) : den τ v = den σ v := by
  cases v <;> simp only [wf1] at k <;> first | exact den_agree_sc h _ k | simp [den, den_agree_scL h _ k]
theorem den_agree {σ τ : Sig} {n : Nat} (h : ∀ i, i < n → τ i = σ i) (v : VV) (k : wf n v) : den τ v = den σ v := by
  cases v <;> simp only [wf] at k <;> try exact den_agree1 h _ k
  rename_i vs
  simp only [den, denL_eq]
  rw [List.map_congr_left fun v hv => den_agree1 h v (k v hv)]

mutual
def ren (θ : Nat → Nat) : VV → VV
  | .int k n => .int k n
  | .bool b => .bool b
  | .str s => .str s
  | .ptr b o => .ptr (θ b) o
  | .sl b o n c => .sl (θ b) o n c
  | .map b => .map (θ b)
  | .fn f cap => .fn f (renL θ cap)
  | .nilf => .nilf
  | .nili => .nili
  | .agg cs => .agg (renL θ cs)
  | .tup vs => .tup (renL θ vs)
  | .any => .any
def renL (θ : Nat → Nat) : List VV → List VV
  | [] => []
  | v :: vs => ren θ v :: renL θ vs
end
mutual
theorem den_ren (σ : Sig) (θ : Nat → Nat) : ∀ v, den σ (ren θ v) = den (fun i => σ (θ i)) v
  | .int _ _ | .bool _ | .str _ | .nilf | .nili | .ptr _ _ | .sl _ _ _ _ | .map _ | .any => by simp [ren, den]
  | .fn f cap => by simp [ren, den, denL_ren σ θ cap]
  | .agg cs => by simp [ren, den, denL_ren σ θ cs]
  | .tup vs => by simp [ren, den, denL_ren σ θ vs]
theorem denL_ren (σ : Sig) (θ : Nat → Nat) : ∀ l, denL σ (renL θ l) = denL (fun i => σ (θ i)) l
  | [] => by simp [renL, denL]
  | v :: l => by simp [renL, denL, den_ren σ θ v, denL_ren σ θ l]
end
theorem renL_eq (θ : Nat → Nat) : ∀ l, renL θ l = l.map (ren θ)
  | [] => by simp [renL]
  | v :: l => by simp [renL, renL_eq θ l]
mutual
theorem sc_ren {θ : Nat → Nat} {n m : Nat} (h : ∀ i, i < n → θ i < m) : ∀ v, sc n v → sc m (ren θ v)
  | .int _ _, _ | .bool _, _ | .str _, _ | .nilf, _ | .nili, _ => by simp [sc, ren]
  | .ptr b _, k => by simp [sc, ren] at *; exact h b k
  | .sl b _ _ _, k => by simp [sc, ren] at *; exact h b k
  | .map b, k => by simp [sc, ren] at *; exact h b k
  | .fn _ cap, k => by simp only [sc, ren] at *; exact scL_ren h cap k
  | .agg _, k => by simp [sc] at k
  | .tup _, k => by simp [sc] at k
  | .any, k => by simp [sc] at k
theorem scL_ren {θ : Nat → Nat} {n m : Nat} (h : ∀ i, i < n → θ i < m) : ∀ l, scL n l → scL m (renL θ l)
  | [], _ => by simp [scL, renL]
  | v :: l, k => by simp only [scL, renL] at *; exact ⟨sc_ren h v k.1, scL_ren h l k.2⟩
end
theorem wf1_ren {θ : Nat → Nat} {n m : Nat} (h : ∀ i, i < n → θ i < m) (v : VV) (k : wf1 n v) : wf1 m (ren θ v) := by
  cases v <;> simp only [wf1, ren] at * <;> first | exact scL_ren h _ k | simpa only [ren] using sc_ren h _ k
theorem wf_ren {θ : Nat → Nat} {n m : Nat} (h : ∀ i, i < n → θ i < m) (v : VV) (k : wf n v) : wf m (ren θ v) := by
  cases v <;> simp only [wf, ren] at * <;> try (simpa only [ren] using wf1_ren h _ k)
  rename_i vs
  simp only [renL_eq, List.mem_map]
  rintro _ ⟨v, hv, rfl⟩
  exact wf1_ren h v (k v hv)

/-! ### Objects -/
inductive VObj where
  | row (cs : List VV) (t : TypeId) (m : Nat)     -- whole: its cells, the type, how many cells there are with what is spare
  | ro (o : Nat) (cs : List VV)                   -- cells known from o on; only read
  | map (es : List (VV × VV))

def VObj.owned : VObj → Bool
  | .ro _ _ => false
  | _ => true
def VObj.wf (n : Nat) : VObj → Prop
  | .row cs _ _ => scL n cs
  | .ro _ cs => scL n cs
  | .map es => ∀ e ∈ es, wf1 n e.1 ∧ wf1 n e.2
def VObj.ren (θ : Nat → Nat) : VObj → VObj
  | .row cs t m => .row (renL θ cs) t m
  | .ro o cs => .ro o (renL θ cs)
  | .map es => .map (es.map fun e => (VM.ren θ e.1, VM.ren θ e.2))

structure Heap where
  n : Nat
  es : List (Nat × VObj)

/-- none of the cells is frozen -/
def Free (w : World) (d : Nat) (k : Nat) : Prop := ∀ i, i < k → w.frozen? ⟨d, i, none⟩ = false

def OkObj (σ : Sig) (w : World) (b : Nat) : VObj → Prop
  | .row cs t m => match σ b with
    | some d => ∃ c fz sp, w.heap[d]? = some (.cells c t fz) ∧ c.toList = denL σ cs ++ sp ∧ c.size = m ∧ ∀ i, i < m → ¬ (fz.1 ≤ i ∧ i < fz.2)
    | none => cs = [] ∧ m = 0
  | .ro o cs => match σ b with
    | some d => ∀ j v, (denL σ cs)[j]? = some v → w.cell? ⟨d, o + j, none⟩ = some v
    | none => cs = []
  | .map es => match σ b with
    | some d => ∃ ents clock, w.heap[d]? = some (.map ents clock) ∧ ents.toList.map (fun e => (e.key, e.val)) = es.map (fun e => (den σ e.1, den σ e.2))
    | none => False

def OwnedB (σ : Sig) (h : Heap) (b : Nat) : Prop := ∃ e ∈ h.es, e.2.owned = true ∧ σ e.1 = some b

def Sep1 (σ : Sig) (e e' : Nat × VObj) : Prop := ∀ d, σ e.1 = some d → σ e'.1 = some d → e.2.owned = false ∧ e'.2.owned = false

structure Ok (σ : Sig) (h : Heap) (w : World) : Prop where
  nil : σ 0 = none
  pos : 1 ≤ h.n
  obj : ∀ e ∈ h.es, e.1 < h.n ∧ e.2.wf h.n ∧ OkObj σ w e.1 e.2
  sep : h.es.Pairwise (Sep1 σ)
  lt : ∀ i, i < h.n → ∀ d, σ i = some d → d < w.heap.size

structure Step (σ : Sig) (h : Heap) (w : World) (σ' : Sig) (h' : Heap) (w' : World) : Prop where
  agree : ∀ i, i < h.n → σ' i = σ i
  le : h.n ≤ h'.n
  ok : Ok σ' h' w'
  os : w'.os = w.os
  tape : w'.tape = w.tape
  output : w'.output = w.output
  size : w.heap.size ≤ w'.heap.size
  frame : ∀ b, b < w.heap.size → ¬ OwnedB σ h b → w'.heap[b]? = w.heap[b]?
  owned : ∀ b, b < w.heap.size → OwnedB σ' h' b → OwnedB σ h b

theorem Step.refl {σ : Sig} {h : Heap} {w : World} (k : Ok σ h w) : Step σ h w σ h w :=
  ⟨fun _ _ => rfl, Nat.le_refl _, k, rfl, rfl, rfl, Nat.le_refl _, fun _ _ _ => rfl, fun _ _ h => h⟩
theorem Step.trans {σ σ' σ'' : Sig} {h h' h'' : Heap} {w w' w'' : World} (a : Step σ h w σ' h' w') (b : Step σ' h' w' σ'' h'' w'') : Step σ h w σ'' h'' w'' where
  agree := fun i hi => (b.agree i (Nat.lt_of_lt_of_le hi a.le)).trans (a.agree i hi)
  le := Nat.le_trans a.le b.le
  ok := b.ok
  os := b.os.trans a.os
  tape := b.tape.trans a.tape
  output := b.output.trans a.output
  size := Nat.le_trans a.size b.size
  frame := fun i hi ho => (b.frame i (Nat.lt_of_lt_of_le hi a.size) (fun k => ho (a.owned i hi k))).trans (a.frame i hi ho)
  owned := fun i hi ho => a.owned i hi (b.owned i (Nat.lt_of_lt_of_le hi a.size) ho)

theorem Ok.drew {σ : Sig} {h : Heap} {w : World} (k : Ok σ h w) : Ok σ h w.drew := ⟨k.nil, k.pos, k.obj, k.sep, k.lt⟩
theorem Step.drew {σ : Sig} {h : Heap} {w : World} (k : Ok σ h w) : Step σ h w σ h w.drew :=
  ⟨fun _ _ => rfl, Nat.le_refl _, k.drew, rfl, rfl, rfl, Nat.le_refl _, fun _ _ _ => rfl, fun _ _ h => h⟩

/-- objects stand where the blocks that they lie in stand -/
theorem OkObj.stay {σ : Sig} {w w' : World} {b : Nat} {o : VObj} (h : OkObj σ w b o) (hb : ∀ d, σ b = some d → w'.heap[d]? = w.heap[d]?) : OkObj σ w' b o := by
  cases o with
  | row cs t m =>
    simp only [OkObj] at *
    split <;> rename_i hs <;> simp only [hs] at h
    · rw [hb _ hs]; exact h
    · exact h
  | ro off cs =>
    simp only [OkObj] at *
    split <;> rename_i hs <;> simp only [hs] at h
    · intro j v hj
      rw [World.cell?_of_block (w := w) (hb _ hs)]; exact h j v hj
    · exact h
  | map es =>
    simp only [OkObj] at *
    split <;> rename_i hs <;> simp only [hs] at h
    · rw [hb _ hs]; exact h
theorem OkObj.agree {σ τ : Sig} {n : Nat} {w : World} {b : Nat} {o : VObj} (h : OkObj σ w b o) (hb : b < n) (hw : o.wf n) (ha : ∀ i, i < n → τ i = σ i) : OkObj τ w b o := by
  cases o with
  | row cs t m =>
    simp only [OkObj, VObj.wf] at *
    rw [ha b hb, den_agree_scL ha cs hw]; exact h
  | ro off cs =>
    simp only [OkObj, VObj.wf] at *
    rw [ha b hb, den_agree_scL ha cs hw]; exact h
  | map es =>
    simp only [OkObj, VObj.wf] at *
    rw [ha b hb, List.map_congr_left fun e he => by rw [den_agree1 ha _ (hw e he).1, den_agree1 ha _ (hw e he).2]]; exact h
theorem VObj.wf_mono {n m : Nat} (h : n ≤ m) {o : VObj} (k : o.wf n) : o.wf m := by
  cases o <;> simp only [VObj.wf] at * <;> first | exact scL_mono h _ k | exact fun e he => ⟨wf1_mono h _ (k e he).1, wf1_mono h _ (k e he).2⟩

/-- a new block -/
def Sig.put (σ : Sig) (i : Nat) (d : Option Nat) : Sig := fun j => if j = i then d else σ j
theorem Step.alloc {σ : Sig} {h : Heap} {w : World} (k : Ok σ h w) (o : VObj) (r : Obj) (hw : o.wf (h.n + 1)) (ho : OkObj (σ.put h.n (some w.heap.size)) (w.alloc r) h.n o) :
    Step σ h w (σ.put h.n (some w.heap.size)) ⟨h.n + 1, (h.n, o) :: h.es⟩ (w.alloc r) := by
  have ha : ∀ i, i < h.n → (σ.put h.n (some w.heap.size)) i = σ i := fun i hi => by simp [Sig.put]; intro e; omega
  refine ⟨ha, Nat.le_succ _, ⟨?_, ?_, ?_, ?_, ?_⟩, rfl, rfl, rfl, by simp, fun b hb _ => Below.heap_alloc _ _ _ hb, ?_⟩
  · rw [ha 0 k.pos]; exact k.nil
  · exact Nat.succ_le_succ (Nat.zero_le _)
  · intro e he
    rcases List.mem_cons.1 he with rfl | he
    · exact ⟨Nat.lt_succ_self _, hw, ho⟩
    · obtain ⟨h1, h2, h3⟩ := k.obj e he
      refine ⟨Nat.lt_succ_of_lt h1, VObj.wf_mono (Nat.le_succ _) h2, (h3.agree h1 h2 ha).stay fun d hd => ?_⟩
      rw [ha _ h1] at hd
      exact Below.heap_alloc _ _ _ (k.lt _ h1 d hd)
  · refine List.pairwise_cons.2 ⟨fun e he d hd hd' => ?_, k.sep.imp_of_mem fun {e e'} he he' hs d hd hd' => ?_⟩
    · have h1 := (k.obj e he).1
      rw [ha _ h1] at hd'
      simp [Sig.put] at hd
      have := k.lt _ h1 d hd'
      omega
    · rw [ha _ (k.obj e he).1] at hd
      rw [ha _ (k.obj e' he').1] at hd'
      exact hs d hd hd'
  · intro i hi d hd
    rw [World.size_alloc]
    simp only [Sig.put] at hd
    split at hd
    · cases hd; omega
    · have := k.lt i (by simp at hi; omega) d hd; omega
  · rintro b hb ⟨e, he, ho, hd⟩
    rcases List.mem_cons.1 he with rfl | he
    · simp [Sig.put] at hd; omega
    · rw [ha _ (k.obj e he).1] at hd
      exact ⟨e, he, ho, hd⟩
end Go.VM
