import Derived.Test.YtfphhdcpjoajbaaD1
import Derived.Deep.RegionHeld3
namespace Go.Draw
open Go.RowKit
variable {P : Program}

theorem wl_binInt (op : BinOp) (t : TypeId) (k k' : IntKind) (x y : Int) : WL P (binOp op t (.int k x) (.int k' y)) := by
  cases op <;> simp only [binOp] <;> first
    | exact wl_shift _ _ _ _ _
    | (split
       · exact wl_stuck _
       · first | exact wl_intArith _ _ _ _ | exact wl_intDiv _ _ _ _ | exact wl_intBits _ _ _ _ | exact wl_intCmp _ _ _)
theorem wl_binStr (op : BinOp) (t : TypeId) (x y : ByteArray) : WL P (binOp op t (.string x) (.string y)) := by
  cases op <;> simp only [binOp] <;> exact wl_stringOp _ _ _
theorem wl_binBool (op : BinOp) (t : TypeId) (x y : Bool) : WL P (binOp op t (.bool x) (.bool y)) := by
  have he : WL P (Op.equal t (.bool x) (.bool y)) := by
    unfold Op.equal Op.maxDepth Op.equalIn
    refine (wl_underlying t).bind fun d => ?_
    cases d <;> first | exact wl_pure _ | exact wl_stuck _
  cases op <;> simp only [binOp] <;> first
    | exact wl_stuck _
    | exact he.bind fun _ => wl_pure _
    | (split <;> exact wl_stuck _)
theorem wl_eqGuard (op : BinOp) (t : TypeId) (x y : Operand) (a b : Value) (h : (match a with | .int .. | .string _ | .bool _ => true | _ => false) = true) : WL P (eqGuard op t x y a b) := by
  cases a <;> simp at h <;> cases op <;> simp only [eqGuard] <;> (try split) <;> (first | exact wl_pure _ | (simp; exact wl_pure _))

/-- operations that look at no memory, by their form -/
def silentOp (o : Oper) : Bool :=
  match o.op with
  | .move _ | .assign _ | .pick .. | .extract .. | .field .. | .unOp .. | .indexAddr .. | .index .. | .slice .. => true
  | _ => false

theorem wl_next {s : Sem Value} (h : WL P s) : WL P (do pure (Next.value (← s))) := h.bind fun _ => wl_pure _

/-- what a silent operation leaves is a value -/
theorem silent_run {ρ : Operand → Value} {o : Oper} (h : silentOp o = true) : ∃ s : Sem Value, execOp ρ o = (do pure (Next.value (← s))) ∧ WL P s := by
  obtain ⟨dst, op, type, pos, after, guard⟩ := o
  cases op <;> simp [silentOp] at h
  case move x => exact ⟨pure (ρ x), rfl, wl_pure _⟩
  case assign x => exact ⟨pure (ρ x), rfl, wl_pure _⟩
  case pick c a b =>
    refine ⟨(do pure (if ← asBool (ρ c) then ρ a else ρ b)), ?_, (wl_asBool _).bind fun _ => wl_pure _⟩
    simp [execOp]
  case extract t i => exact ⟨_, rfl, wl_extract _ _⟩
  case field t x i => exact ⟨_, rfl, wl_field _ _ _⟩
  case unOp u t x => exact ⟨_, rfl, wl_unary _ _⟩
  case indexAddr t x i => exact ⟨_, rfl, wl_indexAt _ _ _⟩
  case index t x i => exact ⟨_, rfl, wl_index _ _ _⟩
  case slice t x lo hi mx => exact ⟨_, rfl, wl_sliceAt _ _ _ _ _⟩

section
variable {ops : Array Oper} {Q : Exit → Act → World → Prop} {S : World → Prop}

def NoQ : Exit → Act → World → Prop := fun _ _ _ => False

/-- out of a walk of one operation of which it is known that it is a value's, at whatever world -/
theorem yields_of {o : Oper} {a : Act} {w : World} {s : Sem Value} (hw : Region.wanted o (yielded ops a.tmps) = true) (he : execOp a.eval o = (do pure (Next.value (← s))))
    (hs : ∀ v w1, s.run P w = .ok v w1 → w1 = w ∧ ∀ w', S w' → s.run P w' = .ok v w') {K : Act → World → Prop} (h : o.wp P a w K NoQ) :
    ∃ v, YieldsIf P ops S o v a ∧ K (a.put o.dst v) w := by
  unfold Oper.wp at h
  rw [he, Sem.run_bind] at h
  cases hr : s.run P w with
  | halt x w1 =>
    rw [hr] at h
    cases x <;> simp [Result.andThen, Oper.upon, NoQ] at h
  | ok v w1 =>
    obtain ⟨rfl, h2⟩ := hs _ _ hr
    rw [hr] at h
    simp only [Result.andThen_ok, Sem.run_pure, Oper.upon] at h
    exact ⟨v, .inl ⟨hw, fun w' hS => by rw [he, Sem.run_bind, h2 w' hS]; simp⟩, h⟩

/-! ### Plans -/
inductive Plan where
  | done
  | take (i : Nat) (p : Plan)
  | eff (i : Nat) (p : Plan)
  | eff2 (i j : Nat) (p q : Plan)
  | eff3 (i j k : Nat) (p q r : Plan)

def Plan.depth : Plan → Nat
  | .done => 0
  | .take _ p | .eff _ p => p.depth + 1
  | .eff2 _ _ p q => max p.depth q.depth + 1
  | .eff3 _ _ _ p q r => max p.depth (max q.depth r.depth) + 1

/-- does the plan go by the region's edges? -/
def Plan.ok (ops : Array Oper) : Plan → Array Bool → Bool
  | .done, l => (Region.ready .any ops l).isEmpty
  | .take i p, l => Region.free .any ops l i && (Region.ready .any ops l).contains i && p.ok ops (l.setIfInBounds i true)
  | .eff i p, l => Region.ready .any ops l == [i] && p.ok ops (l.setIfInBounds i true)
  | .eff2 i j p q, l => Region.ready .any ops l == [i, j] && p.ok ops (l.setIfInBounds i true) && q.ok ops (l.setIfInBounds j true)
  | .eff3 i j k p q r, l => Region.ready .any ops l == [i, j, k] && p.ok ops (l.setIfInBounds i true) && q.ok ops (l.setIfInBounds j true) && r.ok ops (l.setIfInBounds k true)

def Plan.fits (ops : Array Oper) (p : Plan) : Bool := Region.noSelect ops && decide (p.depth ≤ ops.size) && p.ok ops (Array.replicate ops.size false)

def wpPlan (P : Program) (ops : Array Oper) (Q : Exit → Act → World → Prop) (S : World → Prop) : Plan → Act → World → Prop
  | .done, a, w => Q .normal a w
  | .take i p, a, w => ∃ o v, ops[i]? = some o ∧ YieldsIf P ops S o v a ∧ wpPlan P ops Q S p (a.put o.dst v) w
  | .eff i p, a, w => wpOp P ops Q i (fun a' w' => S w' ∧ wpPlan P ops Q S p a' w') a w
  | .eff2 i j p q, a, w => wpOp P ops Q i (fun a' w' => S w' ∧ wpPlan P ops Q S p a' w') a w ∧ wpOp P ops Q j (fun a' w' => S w' ∧ wpPlan P ops Q S q a' w') a w
  | .eff3 i j k p q r, a, w => wpOp P ops Q i (fun a' w' => S w' ∧ wpPlan P ops Q S p a' w') a w ∧ wpOp P ops Q j (fun a' w' => S w' ∧ wpPlan P ops Q S q a' w') a w ∧
      wpOp P ops Q k (fun a' w' => S w' ∧ wpPlan P ops Q S r a' w') a w

theorem wpPlan_sound (hs : Region.noSelect ops = true) (hQ : ∀ c a a' w, Q (.panic c) a w → Q (.panic c) a' w) : ∀ (p : Plan) (fuel : Nat) (l : Array Bool) (a : Act) (w : World),
    p.depth ≤ fuel → p.ok ops l = true → S w → wpPlan P ops Q S p a w → wpAnyH P .any ops Q S fuel l a w
  | .done, fuel, l, a, w, _, hok, _, h => wpAnyH_done (by simpa [Plan.ok] using hok) h fuel
  | .take i p, fuel, l, a, w, hd, hok, hS, h => by
    obtain ⟨o, v, hi, hy, h⟩ := h
    simp only [Plan.ok, Bool.and_eq_true] at hok
    obtain ⟨k, rfl⟩ : ∃ k, fuel = k + 1 := ⟨fuel - 1, by simp only [Plan.depth] at hd; omega⟩
    exact wpAnyH_take hi hs hok.1.1 hok.1.2 (fun c a w => hQ c _ _ w) hy hS (wpPlan_sound hs hQ p k _ _ _ (by simp only [Plan.depth] at hd; omega) hok.2 hS h)
  | .eff i p, fuel, l, a, w, hd, hok, hS, h => by
    simp only [Plan.ok, Bool.and_eq_true] at hok
    obtain ⟨k, rfl⟩ : ∃ k, fuel = k + 1 := ⟨fuel - 1, by simp only [Plan.depth] at hd; omega⟩
    refine wpAnyH_all (eq_of_beq hok.1) (by simp) fun j hj => ?_
    simp only [List.mem_singleton] at hj; subst hj
    exact wpOp_mono (fun a' w' h' => ⟨h'.1, wpPlan_sound hs hQ p k _ _ _ (by simp only [Plan.depth] at hd; omega) hok.2 h'.1 h'.2⟩) h
  | .eff2 i j p q, fuel, l, a, w, hd, hok, hS, h => by
    simp only [Plan.ok, Bool.and_eq_true] at hok
    obtain ⟨k, rfl⟩ : ∃ k, fuel = k + 1 := ⟨fuel - 1, by simp only [Plan.depth] at hd; omega⟩
    refine wpAnyH_all (eq_of_beq hok.1.1) (by simp) fun m hm => ?_
    simp only [List.mem_cons, List.not_mem_nil, or_false] at hm
    rcases hm with rfl | rfl
    · exact wpOp_mono (fun a' w' h' => ⟨h'.1, wpPlan_sound hs hQ p k _ _ _ (by simp only [Plan.depth] at hd; omega) hok.1.2 h'.1 h'.2⟩) h.1
    · exact wpOp_mono (fun a' w' h' => ⟨h'.1, wpPlan_sound hs hQ q k _ _ _ (by simp only [Plan.depth] at hd; omega) hok.2 h'.1 h'.2⟩) h.2
  | .eff3 i j m p q r, fuel, l, a, w, hd, hok, hS, h => by
    simp only [Plan.ok, Bool.and_eq_true] at hok
    obtain ⟨k, rfl⟩ : ∃ k, fuel = k + 1 := ⟨fuel - 1, by simp only [Plan.depth] at hd; omega⟩
    refine wpAnyH_all (eq_of_beq hok.1.1.1) (by simp) fun n hn => ?_
    simp only [List.mem_cons, List.not_mem_nil, or_false] at hn
    rcases hn with rfl | rfl | rfl
    · exact wpOp_mono (fun a' w' h' => ⟨h'.1, wpPlan_sound hs hQ p k _ _ _ (by simp only [Plan.depth] at hd; omega) hok.1.1.2 h'.1 h'.2⟩) h.1
    · exact wpOp_mono (fun a' w' h' => ⟨h'.1, wpPlan_sound hs hQ q k _ _ _ (by simp only [Plan.depth] at hd; omega) hok.1.2 h'.1 h'.2⟩) h.2.1
    · exact wpOp_mono (fun a' w' h' => ⟨h'.1, wpPlan_sound hs hQ r k _ _ _ (by simp only [Plan.depth] at hd; omega) hok.2 h'.1 h'.2⟩) h.2.2

/-- THE BEGINNING: (the region is shown not to panic) -/
theorem wp_plan {id : Nat} {a : Act} {w : World} (p : Plan) (S : World → Prop) (hm : P.follows .mixedOrders = true) (hp : p.fits ops = true)
    (hS : S w.drew) (h : wpPlan P ops (NoPanic Q) S p a w.drew) : (Code.region id ops true).wp P Q a w := by
  simp only [Plan.fits, Bool.and_eq_true, decide_eq_true_eq] at hp
  exact wp_region_noPanic (wp_region_held hm (wpPlan_sound hp.1.1 (fun _ _ _ _ h => h) p ops.size _ a _ hp.1.2 hp.2 hS h))
end
end Go.Draw
