/- A region that draws its order, by a plan: silent operations and loads of blocks that stay are taken as they come; those that act are branched over. -/
import Derived.WalkKit
import Derived.OrdersHeld
import Derived.Deep.MidRow
namespace Go.Draw
open Go.RowKit
variable {P : Program}

/-! ### What looks at no memory -/
/-- s looks at no memory: where it succeeds it leaves the world, and gives the same in whatever world -/
def WL {α : Type} (P : Program) (s : Sem α) : Prop := ∀ w v w1, s.run P w = .ok v w1 → w1 = w ∧ ∀ w', s.run P w' = .ok v w'
/-- s never succeeds -/
def NV {α : Type} (P : Program) (s : Sem α) : Prop := ∀ w v w1, s.run P w ≠ .ok v w1

section
variable {α β : Type}
theorem wl_pure (a : α) : WL P (Pure.pure a : Sem α) := fun w v w1 h => by
  simp only [Sem.run_pure, Result.ok.injEq] at h
  obtain ⟨rfl, rfl⟩ := h
  exact ⟨rfl, fun _ => Sem.run_pure ..⟩
theorem nv_halt (x : Halt) : NV P (Sem.halt x : Sem α) := fun w v w1 h => by simp [Sem.run] at h
theorem NV.wl {s : Sem α} (h : NV P s) : WL P s := fun w v w1 e => absurd e (h w v w1)
theorem NV.right {s : Sem α} {f : α → Sem β} (hf : ∀ a, NV P (f a)) : NV P (s >>= f) := fun w v w1 h => by
  rw [Sem.run_bind] at h
  cases hr : s.run P w with
  | halt x w2 => rw [hr] at h; simp [Result.andThen] at h
  | ok a w2 => rw [hr] at h; exact hf a _ _ _ h
theorem WL.bind {s : Sem α} {f : α → Sem β} (hs : WL P s) (hf : ∀ a, WL P (f a)) : WL P (s >>= f) := fun w v w1 h => by
  rw [Sem.run_bind] at h
  cases hr : s.run P w with
  | halt x w2 => rw [hr] at h; simp [Result.andThen] at h
  | ok a w2 =>
    rw [hr] at h
    simp only [Result.andThen_ok] at h
    obtain ⟨rfl, h1⟩ := hs _ _ _ hr
    obtain ⟨rfl, h2⟩ := hf a _ _ _ h
    exact ⟨rfl, fun w' => by rw [Sem.run_bind, h1, Result.andThen_ok]; exact h2 w'⟩
theorem wl_prog : WL P program := fun w v w1 h => by
  rw [run_program] at h
  cases h
  exact ⟨rfl, fun w' => run_program ..⟩
theorem wl_ite {c : Prop} [Decidable c] {s t : Sem α} (hs : WL P s) (ht : WL P t) : WL P (if c then s else t) := by split; exact hs; exact ht
end

theorem wl_stuck {α : Type} (s : String) : WL P (stuck s : Sem α) := (nv_halt _).wl
theorem wl_unsupported {α : Type} (s : Unsupported) : WL P (unsupported s : Sem α) := (nv_halt _).wl
theorem nv_goPanic {α : Type} (v : Value) : NV P (goPanic v : Sem α) := nv_halt _
theorem wl_underlying (t : TypeId) : WL P (underlying t) := by
  unfold Go.underlying
  refine wl_prog.bind fun p => ?_
  split
  · exact wl_pure _
  · exact wl_stuck _
theorem wl_typeInfo (t : TypeId) : WL P (typeInfo t) := by
  unfold Go.typeInfo
  refine wl_prog.bind fun p => ?_
  split
  · exact wl_pure _
  · exact wl_stuck _
theorem wl_sizeOf (t : TypeId) : WL P (sizeOf t) := (wl_typeInfo t).bind fun _ => wl_pure _
theorem wl_isAgg (t : TypeId) : WL P (isAgg t) := by
  unfold Go.isAgg
  refine (wl_underlying t).bind fun d => ?_
  split <;> exact wl_pure _
theorem wl_part (t : TypeId) (cs : Array Value) (off : Nat) : WL P (part t cs off) := by
  unfold Go.part
  refine (wl_isAgg t).bind fun b => ?_
  split
  · exact (wl_sizeOf t).bind fun _ => wl_pure _
  · split
    · exact wl_pure _
    · exact wl_stuck _
theorem wl_zeroValue (t : TypeId) : WL P (zeroValue t) := by
  unfold Go.zeroValue
  refine (wl_typeInfo t).bind fun i => ?_
  split
  · exact wl_pure _
  · exact wl_unsupported _
theorem wl_sureAddr (v : Value) : WL P (Instr.sureAddr v) := by
  unfold Instr.sureAddr
  split
  · exact wl_pure _
  · exact wl_stuck _
theorem nv_runtimePanic {α : Type} (e : RuntimeError) : NV P (runtimePanic e : Sem α) := by
  unfold runtimePanic
  refine NV.right fun p => ?_
  cases e <;> simp only []
  all_goals first
    | exact nv_goPanic _
    | exact NV.right fun _ => nv_goPanic _
    | exact NV.right fun _ => NV.right fun _ => nv_goPanic _
theorem nv_boundsPanic {α : Type} (k : IntKind) (x y : Int) (c : BoundsCode) : NV P (boundsPanic k x y c : Sem α) := by
  unfold boundsPanic
  dsimp only
  split <;> exact NV.right fun _ => nv_runtimePanic _
theorem wl_asIntOf (v : Value) : WL P (asIntOf v) := by
  unfold asIntOf
  split
  · exact wl_pure _
  all_goals first | exact wl_stuck _ | exact wl_unsupported _
theorem wl_asAgg (v : Value) : WL P (asAgg v) := by
  unfold asAgg
  split
  · exact wl_pure _
  all_goals first | exact wl_stuck _ | exact wl_unsupported _
theorem wl_asBool (v : Value) : WL P (asBool v) := by
  unfold asBool
  split
  · exact wl_pure _
  all_goals first | exact wl_stuck _ | exact wl_unsupported _

theorem wl_index (t : TypeId) (x i : Value) : WL P (Instr.index t x i) := by
  unfold Instr.index
  repeat' first
    | exact wl_pure _
    | exact wl_stuck _
    | exact wl_unsupported _
    | exact NV.wl (nv_boundsPanic _ _ _ _)
    | exact NV.wl (nv_runtimePanic _)
    | exact wl_sizeOf _
    | exact wl_part _ _ _
    | exact wl_underlying _
    | exact wl_asIntOf _
    | exact wl_sureAddr _
    | exact wl_asAgg _
    | exact wl_asBool _
    | refine WL.bind ?_ (fun _ => ?_)
    | split
    | dsimp only
theorem wl_indexAt (t : TypeId) (x i : Value) : WL P (Instr.indexAt t x i) := by
  unfold Instr.indexAt
  repeat' first
    | exact wl_pure _
    | exact wl_stuck _
    | exact wl_unsupported _
    | exact NV.wl (nv_boundsPanic _ _ _ _)
    | exact NV.wl (nv_runtimePanic _)
    | exact wl_sizeOf _
    | exact wl_part _ _ _
    | exact wl_underlying _
    | exact wl_asIntOf _
    | exact wl_sureAddr _
    | exact wl_asAgg _
    | exact wl_asBool _
    | refine WL.bind ?_ (fun _ => ?_)
    | split
    | dsimp only
theorem wl_sliceBound (x : Value) (y : Nat) (c : BoundsCode) : WL P (Instr.sliceBound x y c) := by
  unfold Instr.sliceBound
  repeat' first
    | exact wl_pure _
    | exact wl_stuck _
    | exact wl_unsupported _
    | exact NV.wl (nv_boundsPanic _ _ _ _)
    | exact NV.wl (nv_runtimePanic _)
    | exact wl_sizeOf _
    | exact wl_part _ _ _
    | exact wl_underlying _
    | exact wl_asIntOf _
    | exact wl_sureAddr _
    | exact wl_asAgg _
    | exact wl_asBool _
    | refine WL.bind ?_ (fun _ => ?_)
    | split
    | dsimp only
theorem wl_sliceBounds (b : Bool) (l c : Nat) (lo hi mx : Option Value) : WL P (Instr.sliceBounds b l c lo hi mx) := by
  unfold Instr.sliceBounds
  repeat' first
    | exact wl_pure _
    | exact wl_stuck _
    | exact wl_unsupported _
    | exact NV.wl (nv_boundsPanic _ _ _ _)
    | exact NV.wl (nv_runtimePanic _)
    | exact wl_sizeOf _
    | exact wl_part _ _ _
    | exact wl_underlying _
    | exact wl_asIntOf _
    | exact wl_sureAddr _
    | exact wl_asAgg _
    | exact wl_asBool _
    | exact wl_sliceBound _ _ _
    | refine WL.bind ?_ (fun _ => ?_)
    | split
    | dsimp only
theorem wl_asAddr (v : Value) : WL P (asAddr v) := by
  unfold asAddr
  repeat' first
    | exact wl_pure _
    | exact wl_stuck _
    | exact wl_unsupported _
    | exact NV.wl (nv_boundsPanic _ _ _ _)
    | exact NV.wl (nv_runtimePanic _)
    | exact wl_sizeOf _
    | exact wl_part _ _ _
    | exact wl_underlying _
    | exact wl_asIntOf _
    | exact wl_sureAddr _
    | exact wl_asAgg _
    | exact wl_asBool _
    | refine WL.bind ?_ (fun _ => ?_)
    | split
    | dsimp only
theorem wl_slice (t : TypeId) (x : Value) (lo hi mx : Option Value) : WL P (Instr.slice t x lo hi mx) := by
  unfold Instr.slice
  repeat' first
    | exact wl_pure _
    | exact wl_stuck _
    | exact wl_unsupported _
    | exact NV.wl (nv_boundsPanic _ _ _ _)
    | exact NV.wl (nv_runtimePanic _)
    | exact wl_sizeOf _
    | exact wl_part _ _ _
    | exact wl_underlying _
    | exact wl_asIntOf _
    | exact wl_sureAddr _
    | exact wl_asAgg _
    | exact wl_asBool _
    | exact wl_sliceBounds _ _ _ _ _ _
    | exact wl_asAddr _
    | refine WL.bind ?_ (fun _ => ?_)
    | split
    | dsimp only
theorem wl_sliceAt (t : TypeId) (x : Value) (lo hi mx : Option Value) : WL P (Instr.sliceAt t x lo hi mx) := by
  unfold Instr.sliceAt
  repeat' first
    | exact wl_pure _
    | exact wl_stuck _
    | exact wl_unsupported _
    | exact NV.wl (nv_boundsPanic _ _ _ _)
    | exact NV.wl (nv_runtimePanic _)
    | exact wl_sizeOf _
    | exact wl_part _ _ _
    | exact wl_underlying _
    | exact wl_asIntOf _
    | exact wl_sureAddr _
    | exact wl_asAgg _
    | exact wl_asBool _
    | exact wl_sliceBounds _ _ _ _ _ _
    | exact wl_slice _ _ _ _ _
    | refine WL.bind ?_ (fun _ => ?_)
    | split
    | dsimp only
theorem wl_extract (v : Value) (i : Nat) : WL P (Instr.extract v i) := by
  unfold Instr.extract
  repeat' first
    | exact wl_pure _
    | exact wl_stuck _
    | exact wl_unsupported _
    | exact NV.wl (nv_boundsPanic _ _ _ _)
    | exact NV.wl (nv_runtimePanic _)
    | exact wl_sizeOf _
    | exact wl_part _ _ _
    | exact wl_underlying _
    | exact wl_asIntOf _
    | exact wl_sureAddr _
    | exact wl_asAgg _
    | exact wl_asBool _
    | refine WL.bind ?_ (fun _ => ?_)
    | split
    | dsimp only
theorem wl_field (t : TypeId) (x : Value) (i : Nat) : WL P (Instr.field t x i) := by
  unfold Instr.field
  repeat' first
    | exact wl_pure _
    | exact wl_stuck _
    | exact wl_unsupported _
    | exact NV.wl (nv_boundsPanic _ _ _ _)
    | exact NV.wl (nv_runtimePanic _)
    | exact wl_sizeOf _
    | exact wl_part _ _ _
    | exact wl_underlying _
    | exact wl_asIntOf _
    | exact wl_sureAddr _
    | exact wl_asAgg _
    | exact wl_asBool _
    | refine WL.bind ?_ (fun _ => ?_)
    | split
    | dsimp only
theorem wl_intArith (op : BinOp) (k : IntKind) (x y : Int) : WL P (Op.intArith op k x y) := by
  unfold Op.intArith
  split <;> first | exact wl_pure _ | exact wl_stuck _
theorem wl_intDiv (op : BinOp) (k : IntKind) (x y : Int) : WL P (Op.intDiv op k x y) := by
  unfold Op.intDiv
  split
  · exact NV.wl (nv_runtimePanic _)
  · split <;> first | exact wl_pure _ | exact wl_stuck _
theorem wl_intBits (op : BinOp) (k : IntKind) (x y : Int) : WL P (Op.intBits op k x y) := by
  unfold Op.intBits
  dsimp only
  split <;> first | exact wl_pure _ | exact wl_stuck _
theorem wl_intCmp (op : BinOp) (x y : Int) : WL P (Op.intCmp op x y) := by
  unfold Op.intCmp
  split <;> first | exact wl_pure _ | exact wl_stuck _
theorem wl_shift (op : BinOp) (k : IntKind) (x : Int) (k' : IntKind) (y : Int) : WL P (Op.shift op k x k' y) := by
  unfold Op.shift
  split
  · exact NV.wl (nv_runtimePanic _)
  · dsimp only
    split <;> first | exact wl_pure _ | exact wl_stuck _
theorem wl_stringOp (op : BinOp) (x y : ByteArray) : WL P (Op.stringOp op x y) := by
  unfold Op.stringOp
  dsimp only
  split <;> first | exact wl_pure _ | exact wl_stuck _ | (split <;> first | exact wl_pure _ | exact wl_unsupported _)
theorem wl_unary (op : UnOp) (x : Value) : WL P (Op.unary op x) := by
  unfold Op.unary
  split <;> first | exact wl_pure _ | exact wl_stuck _ | exact wl_unsupported _ | exact wl_intArith .. | exact wl_intBits ..
end Go.Draw
