/- The steps of a plan once more, each behind an equation that tells which step it is: a step that does not fit fails at once. -/
import Derived.Test.YtbomebnonkcieaaD4
set_option linter.unusedVariables false
namespace Go.Draw
open Go.RowKit Go.Mem
variable {P : Program} {ops : Array Oper} {Q : Exit → Act → World → Prop} {S : World → Prop}
section
variable {i : Nat} {p0 p : Plan} {a : Act} {w : World} {o : Oper}
theorem q_done (hp : p0 = .done) (h : Q .normal a w) : wpPlan P ops Q S p0 a w := by subst hp; exact h
theorem put_same {a : Act} {d : Nat} (h : a.tmps[d]? = some undef) : a.put (some d) undef = a := by
  obtain ⟨tmps, defers⟩ := a
  have : tmps.setIfInBounds d undef = tmps := by
    apply Array.ext_getElem?
    intro i
    rw [Array.getElem?_setIfInBounds]
    split
    · rename_i e; subst e
      dsimp only at h
      rw [h]
      split
      · rfl
      · rename_i hn
        rw [Array.getElem?_eq_none (by omega)] at h
        cases h
    · rfl
  simp [Act.put, this]
/-- the guard says no, and the slot holds nothing yet -/
theorem q_skip (hp : p0 = .take i p) (hi : ops[i]? = some o) {g : Nat} {b : Bool} (hg : o.guard = some (g, b)) (hw : Region.wanted o (yielded ops a.tmps) = false) {d : Nat} (hd : o.dst = some d) (hu : a.tmps[d]? = some undef)
    (h : wpPlan P ops Q S p a w) : wpPlan P ops Q S p0 a w := by
  subst hp; exact take_skip hi hw (by rw [hd, put_same hu]; exact h)
theorem q_eskip (hp : p0 = .eff i p) (hi : ops[i]? = some o) {g : Nat} {b : Bool} (hg : o.guard = some (g, b)) (hw : Region.wanted o (yielded ops a.tmps) = false) (hS : S w) {d : Nat} (hd : o.dst = some d) (hu : a.tmps[d]? = some undef)
    (h : wpPlan P ops Q S p a w) : wpPlan P ops Q S p0 a w := by
  subst hp; exact eff_skip hi hw hS (by rw [hd, put_same hu]; exact h)
/-- a move that stands for 'nothing is put' -/
abbrev putNone (d : Nat) : Oper := { dst := some d, op := .move (.const undef), type := 0, pos := "", after := #[], guard := none }
theorem putNone_wp {d : Nat} {K : Act → World → Prop} (h : (putNone d).wp P a w K NoQ) : K (a.put (some d) undef) w := by
  simpa [putNone, Oper.wp, execOp, Oper.upon, Act.eval] using h
/-- the guard says no: whatever the slot holds -/
theorem q_skipW (hp : p0 = .take i p) (hi : ops[i]? = some o) {g : Nat} {b : Bool} (hg : o.guard = some (g, b)) (hw : Region.wanted o (yielded ops a.tmps) = false) {d : Nat} (hd : o.dst = some d)
    (h : ∀ K, (∀ a' w', wpPlan P ops Q S p a' w' → K a' w') → (putNone d).wp P a w K NoQ) : wpPlan P ops Q S p0 a w := by
  subst hp; exact take_skip hi hw (by rw [hd]; exact putNone_wp (h _ fun _ _ h => h))
theorem q_eskipW (hp : p0 = .eff i p) (hi : ops[i]? = some o) {g : Nat} {b : Bool} (hg : o.guard = some (g, b)) (hw : Region.wanted o (yielded ops a.tmps) = false) (hS : S w) {d : Nat} (hd : o.dst = some d)
    (h : ∀ K, (∀ a' w', wpPlan P ops Q S p a' w' → K a' w') → (putNone d).wp P a w K NoQ) : wpPlan P ops Q S p0 a w := by
  subst hp; exact eff_skip hi hw hS (by rw [hd]; exact putNone_wp (h _ fun _ _ h => h))
theorem q_silent (hp : p0 = .take i p) (hi : ops[i]? = some o) (hs : silentOp o = true) (hw : Region.wanted o (yielded ops a.tmps) = true)
    (h : ∀ K, (∀ a' w', wpPlan P ops Q S p a' w' → K a' w') → o.wp P a w K NoQ) : wpPlan P ops Q S p0 a w := by subst hp; exact take_silent hi hs hw h
theorem q_int (hp : p0 = .take i p) (hi : ops[i]? = some o) {op : BinOp} {t t' : TypeId} {x y : Operand} (hop : o.op = .binOp op t x y t') {k k' : IntKind} {m n : Int}
    (hx : a.eval x = .int k m) (hy : a.eval y = .int k' n) (hw : Region.wanted o (yielded ops a.tmps) = true)
    (h : ∀ K, (∀ a' w', wpPlan P ops Q S p a' w' → K a' w') → o.wp P a w K NoQ) : wpPlan P ops Q S p0 a w := by subst hp; exact take_int hi hop hx hy hw h
theorem q_bool (hp : p0 = .take i p) (hi : ops[i]? = some o) {op : BinOp} {t t' : TypeId} {x y : Operand} (hop : o.op = .binOp op t x y t') {m n : Bool}
    (hx : a.eval x = .bool m) (hy : a.eval y = .bool n) (hw : Region.wanted o (yielded ops a.tmps) = true)
    (h : ∀ K, (∀ a' w', wpPlan P ops Q S p a' w' → K a' w') → o.wp P a w K NoQ) : wpPlan P ops Q S p0 a w := by subst hp; exact take_bool hi hop hx hy hw h
theorem q_fieldAddr (hp : p0 = .take i p) (hi : ops[i]? = some o) {s : TypeId} {x : Operand} {f : Nat} (hop : o.op = .fieldAddr s x f) (hz : fieldNZ P s f = true)
    (hw : Region.wanted o (yielded ops a.tmps) = true) (h : ∀ K, (∀ a' w', wpPlan P ops Q S p a' w' → K a' w') → o.wp P a w K NoQ) : wpPlan P ops Q S p0 a w := by subst hp; exact take_fieldAddr hi hop hz hw h
theorem q_len (hp : p0 = .take i p) (hi : ops[i]? = some o) {t : TypeId} {x : Operand} (hop : o.op = .call { callee := .builtin .len, args := #[x], argTypes := #[t] })
    {ao : Option Addr} {n c : Nat} (hx : a.eval x = .slice ao n c)
    (hw : Region.wanted o (yielded ops a.tmps) = true) (h : ∀ K, (∀ a' w', wpPlan P ops Q S p a' w' → K a' w') → o.wp P a w K NoQ) : wpPlan P ops Q S p0 a w := by subst hp; exact take_len hi hop hx hw h
theorem q_build (hp : p0 = .take i p) (hi : ops[i]? = some o) {t : TypeId} {ps : Array (Nat × Operand)} (hop : o.op = .build t ps)
    (hw : Region.wanted o (yielded ops a.tmps) = true) (h : ∀ K, (∀ a' w', wpPlan P ops Q S p a' w' → K a' w') → o.wp P a w K NoQ) : wpPlan P ops Q S p0 a w := by subst hp; exact take_build hi hop hw h
theorem q_eff (hp : p0 = .eff i p) (hi : ops[i]? = some o) (hw : Region.wanted o (yielded ops a.tmps) = true)
    (h : ∀ K, (∀ a' w', (S w' ∧ wpPlan P ops Q S p a' w') → K a' w') → o.wp P a w K NoQ) : wpPlan P ops Q S p0 a w := by subst hp; exact eff_one hi hw h
/-- a load where only new blocks come to be -/
theorem q_load {W : World} (hp : p0 = .take i p) (hi : ops[i]? = some o) {t : TypeId} {x : Operand} (hop : o.op = .load t x) {b off : Nat} (hx : a.eval x = .pointer (some ⟨b, off, none⟩))
    (hw : Region.wanted o (yielded ops a.tmps) = true) (hk : New W w) (hb : b < W.heap.size) {u : Value} (hc : W.cell? ⟨b, off, none⟩ = some u)
    (h : ∀ K, (∀ a' w', wpPlan P ops Q (New W) p a' w' → K a' w') → o.wp P a w K NoQ) : wpPlan P ops Q (New W) p0 a w := by
  subst hp
  exact take_load hi hop hx hw (fun w' h' => (h'.block b hb).trans (hk.block b hb).symm) (by rw [Below.cell hk (p := ⟨b, off, none⟩) hb, hc]; rfl) h
end
end Go.Draw
