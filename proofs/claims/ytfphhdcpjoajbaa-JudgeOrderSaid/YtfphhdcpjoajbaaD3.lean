import Derived.Test.YtfphhdcpjoajbaaD2
namespace Go.Draw
open Go.RowKit
variable {P : Program} {ops : Array Oper} {Q : Exit → Act → World → Prop} {S : World → Prop}

/-! ### The steps of a plan -/
theorem plan_done {a : Act} {w : World} (h : Q .normal a w) : wpPlan P ops (NoPanic Q) S .done a w := h

theorem take_of {i : Nat} {p : Plan} {a : Act} {w : World} {o : Oper} (hi : ops[i]? = some o) {s : Sem Value} (hw : Region.wanted o (yielded ops a.tmps) = true)
    (he : execOp a.eval o = (do pure (Next.value (← s)))) (hs : ∀ v w1, s.run P w = .ok v w1 → w1 = w ∧ ∀ w', S w' → s.run P w' = .ok v w')
    (h : ∀ K, (∀ a' w', wpPlan P ops Q S p a' w' → K a' w') → o.wp P a w K NoQ) : wpPlan P ops Q S (.take i p) a w := by
  obtain ⟨v, hy, hk⟩ := yields_of (S := S) hw he hs (h _ fun _ _ h => h)
  exact ⟨o, v, hi, hy, hk⟩
theorem take_wl {i : Nat} {p : Plan} {a : Act} {w : World} {o : Oper} (hi : ops[i]? = some o) {s : Sem Value} (hw : Region.wanted o (yielded ops a.tmps) = true)
    (he : execOp a.eval o = (do pure (Next.value (← s)))) (hs : WL P s)
    (h : ∀ K, (∀ a' w', wpPlan P ops Q S p a' w' → K a' w') → o.wp P a w K NoQ) : wpPlan P ops Q S (.take i p) a w :=
  take_of hi hw he (fun v w1 hr => ⟨(hs _ _ _ hr).1, fun w' _ => (hs _ _ _ hr).2 w'⟩) h

/-- the guard says no -/
theorem take_skip {i : Nat} {p : Plan} {a : Act} {w : World} {o : Oper} (hi : ops[i]? = some o) (hw : Region.wanted o (yielded ops a.tmps) = false)
    (h : wpPlan P ops Q S p (a.put o.dst undef) w) : wpPlan P ops Q S (.take i p) a w := ⟨o, undef, hi, .inr ⟨hw, rfl⟩, h⟩
theorem take_silent {i : Nat} {p : Plan} {a : Act} {w : World} {o : Oper} (hi : ops[i]? = some o) (hs : silentOp o = true) (hw : Region.wanted o (yielded ops a.tmps) = true)
    (h : ∀ K, (∀ a' w', wpPlan P ops Q S p a' w' → K a' w') → o.wp P a w K NoQ) : wpPlan P ops Q S (.take i p) a w := by
  obtain ⟨s, he, hs⟩ := silent_run (P := P) (ρ := a.eval) hs
  exact take_wl hi hw he hs h
theorem take_int {i : Nat} {p : Plan} {a : Act} {w : World} {o : Oper} (hi : ops[i]? = some o) {op : BinOp} {t t' : TypeId} {x y : Operand} (hop : o.op = .binOp op t x y t') {k k' : IntKind} {m n : Int}
    (hx : a.eval x = .int k m) (hy : a.eval y = .int k' n) (hw : Region.wanted o (yielded ops a.tmps) = true)
    (h : ∀ K, (∀ a' w', wpPlan P ops Q S p a' w' → K a' w') → o.wp P a w K NoQ) : wpPlan P ops Q S (.take i p) a w := by
  refine take_wl hi (s := do eqGuard op t x y (a.eval x) (a.eval y); binOp op t (a.eval x) (a.eval y)) hw (by unfold execOp; rw [hop]) ?_ h
  rw [hx, hy]
  exact (wl_eqGuard _ _ _ _ _ _ rfl).bind fun _ => wl_binInt _ _ _ _ _ _
theorem take_str {i : Nat} {p : Plan} {a : Act} {w : World} {o : Oper} (hi : ops[i]? = some o) {op : BinOp} {t t' : TypeId} {x y : Operand} (hop : o.op = .binOp op t x y t') {m n : ByteArray}
    (hx : a.eval x = .string m) (hy : a.eval y = .string n) (hw : Region.wanted o (yielded ops a.tmps) = true)
    (h : ∀ K, (∀ a' w', wpPlan P ops Q S p a' w' → K a' w') → o.wp P a w K NoQ) : wpPlan P ops Q S (.take i p) a w := by
  refine take_wl hi (s := do eqGuard op t x y (a.eval x) (a.eval y); binOp op t (a.eval x) (a.eval y)) hw (by unfold execOp; rw [hop]) ?_ h
  rw [hx, hy]
  exact (wl_eqGuard _ _ _ _ _ _ rfl).bind fun _ => wl_binStr _ _ _ _
theorem take_bool {i : Nat} {p : Plan} {a : Act} {w : World} {o : Oper} (hi : ops[i]? = some o) {op : BinOp} {t t' : TypeId} {x y : Operand} (hop : o.op = .binOp op t x y t') {m n : Bool}
    (hx : a.eval x = .bool m) (hy : a.eval y = .bool n) (hw : Region.wanted o (yielded ops a.tmps) = true)
    (h : ∀ K, (∀ a' w', wpPlan P ops Q S p a' w' → K a' w') → o.wp P a w K NoQ) : wpPlan P ops Q S (.take i p) a w := by
  refine take_wl hi (s := do eqGuard op t x y (a.eval x) (a.eval y); binOp op t (a.eval x) (a.eval y)) hw (by unfold execOp; rw [hop]) ?_ h
  rw [hx, hy]
  exact (wl_eqGuard _ _ _ _ _ _ rfl).bind fun _ => wl_binBool _ _ _ _

/-- a field that has cells -/
def fieldNZ (P : Program) (s : TypeId) (f : Nat) : Bool :=
  match P.underlying s with
  | some (.struct fs) => match fs[f]? with
    | some fd => (P.info? fd.type).any fun i => i.size != 0
    | none => false
  | _ => false
theorem wl_fieldAt {s : TypeId} {f : Nat} (h : fieldNZ P s f = true) (v : Value) : WL P (Instr.fieldAt s v f) := by
  unfold fieldNZ at h
  split at h
  · rename_i fs hu
    split at h
    · rename_i fd hf
      intro w v' w1 hr
      have key : ∀ w, (Instr.fieldAt s v f).run P w = ((Instr.sureAddr v).run P w).andThen fun a w => .ok (.pointer (some (a.add fd.offset))) w := by
        intro w
        obtain ⟨i, hi, hz⟩ : ∃ i, P.info? fd.type = some i ∧ ¬ i.size = 0 := by
          cases hq : P.info? fd.type with
          | none => rw [hq] at h; simp at h
          | some i => rw [hq] at h; exact ⟨i, rfl, by simpa using h⟩
        unfold Instr.fieldAt
        rw [Sem.run_bind, run_underlying hu, Result.andThen_ok]
        simp only [hf]
        rw [Sem.run_bind]
        congr 1
        funext a w
        simp [fieldPlace, sizeOf, typeInfo, hi, hz]
      rw [key] at hr
      cases hq : (Instr.sureAddr v).run P w with
      | halt x w2 => rw [hq] at hr; simp [Result.andThen] at hr
      | ok a w2 =>
        obtain ⟨rfl, h2⟩ := wl_sureAddr v _ _ _ hq
        rw [hq] at hr
        simp only [Result.andThen_ok, Result.ok.injEq] at hr
        obtain ⟨rfl, rfl⟩ := hr
        exact ⟨rfl, fun w' => by rw [key, h2 w', Result.andThen_ok]⟩
    · cases h
  · cases h
theorem take_fieldAddr {i : Nat} {p : Plan} {a : Act} {w : World} {o : Oper} (hi : ops[i]? = some o) {s : TypeId} {x : Operand} {f : Nat} (hop : o.op = .fieldAddr s x f) (hz : fieldNZ P s f = true)
    (hw : Region.wanted o (yielded ops a.tmps) = true)
    (h : ∀ K, (∀ a' w', wpPlan P ops Q S p a' w' → K a' w') → o.wp P a w K NoQ) : wpPlan P ops Q S (.take i p) a w :=
  take_wl hi (s := Instr.fieldAt s (a.eval x) f) hw (by unfold execOp; rw [hop]) (wl_fieldAt hz _) h
theorem exec_len {ρ : Operand → Value} {o : Oper} {t : TypeId} {x : Operand} (hop : o.op = .call { callee := .builtin .len, args := #[x], argTypes := #[t] }) :
    execOp ρ o = (do pure (Next.value (← Builtin.len_ #[t] o.type #[ρ x]))) := by
  obtain ⟨dst, op, type, pos, after, guard⟩ := o
  dsimp only at hop
  subst hop
  rw [BigFrame.execOp_builtin, BigFrame.builtin_len]
  simp
theorem take_len {i : Nat} {p : Plan} {a : Act} {w : World} {o : Oper} (hi : ops[i]? = some o) {t : TypeId} {x : Operand} (hop : o.op = .call { callee := .builtin .len, args := #[x], argTypes := #[t] })
    {ao : Option Addr} {n c : Nat} (hx : a.eval x = .slice ao n c)
    (hw : Region.wanted o (yielded ops a.tmps) = true)
    (h : ∀ K, (∀ a' w', wpPlan P ops Q S p a' w' → K a' w') → o.wp P a w K NoQ) : wpPlan P ops Q S (.take i p) a w := by
  refine take_wl hi (s := Builtin.len_ #[t] o.type #[a.eval x]) hw (exec_len hop) ?_ h
  rw [hx]
  unfold Builtin.len_
  refine (wl_underlying t).bind fun d => ?_
  cases d <;> first | exact wl_pure _ | exact wl_stuck _ | (refine (wl_underlying _).bind fun d => ?_; cases d <;> first | exact wl_pure _ | exact wl_stuck _)
theorem take_lenStr {i : Nat} {p : Plan} {a : Act} {w : World} {o : Oper} (hi : ops[i]? = some o) {t : TypeId} {x : Operand} (hop : o.op = .call { callee := .builtin .len, args := #[x], argTypes := #[t] })
    {b : ByteArray} (hx : a.eval x = .string b)
    (hw : Region.wanted o (yielded ops a.tmps) = true)
    (h : ∀ K, (∀ a' w', wpPlan P ops Q S p a' w' → K a' w') → o.wp P a w K NoQ) : wpPlan P ops Q S (.take i p) a w := by
  refine take_wl hi (s := Builtin.len_ #[t] o.type #[a.eval x]) hw (exec_len hop) ?_ h
  rw [hx]
  unfold Builtin.len_
  refine (wl_underlying t).bind fun d => ?_
  cases d <;> first | exact wl_pure _ | exact wl_stuck _ | (refine (wl_underlying _).bind fun d => ?_; cases d <;> first | exact wl_pure _ | exact wl_stuck _)
theorem take_nilCheck {i : Nat} {p : Plan} {a : Act} {w : World} {o : Oper} (hi : ops[i]? = some o) {x : Operand} (hop : o.op = .nilCheck x) {ad : Addr} (hx : a.eval x = .pointer (some ad))
    (hw : Region.wanted o (yielded ops a.tmps) = true)
    (h : ∀ K, (∀ a' w', wpPlan P ops Q S p a' w' → K a' w') → o.wp P a w K NoQ) : wpPlan P ops Q S (.take i p) a w := by
  refine take_wl hi (s := pure (.pointer (some ad))) hw (by unfold execOp; rw [hop]; simp only [hx]; rfl) (wl_pure _) h

/-- a load of a block that stays -/
theorem run_load_same {w w' : World} {b o : Nat} {v : Value} (hb : w'.heap[b]? = w.heap[b]?) (m : Mode) (hc : (w.cell? ⟨b, o, none⟩).isSome = true) (i : Nat) {w1 : World}
    (h : (load ((⟨b, o, none⟩ : Addr).add i) m).run P w = .ok v w1) : w1 = w ∧ (load ((⟨b, o, none⟩ : Addr).add i) m).run P w' = .ok v w' := by
  rw [Addr.add_mid] at *
  have hbc : ∃ c t f, w.heap[b]? = some (.cells c t f) := by
    unfold World.cell? at hc
    split at hc
    · rename_i c t f hh; exact ⟨c, t, f, hh⟩
    · simp at hc
  obtain ⟨c, t, f, hh⟩ := hbc
  have e1 : w.cell? ⟨b, o + i, none⟩ = c[o + i]? := cell_of_row w b _ c t f hh
  have e2 : w'.cell? ⟨b, o + i, none⟩ = c[o + i]? := cell_of_row w' b _ c t f (hb.trans hh)
  simp only [load, Sem.run, e1] at h
  simp only [load, Sem.run, e2]
  cases hc : c[o + i]? with
  | some u =>
    rw [hc] at h
    simp only [Result.ok.injEq] at h ⊢
    obtain ⟨rfl, rfl⟩ := h
    exact ⟨rfl, by simp⟩
  | none =>
    rw [hc] at h
    simp [World.farLoad, hh] at h
theorem run_loadCells_same {w w' : World} {b o : Nat} (hb : w'.heap[b]? = w.heap[b]?) (hc : (w.cell? ⟨b, o, none⟩).isSome = true) : ∀ (n i : Nat) (acc v : Array Value) {w1 : World},
    (loadCellsFrom ⟨b, o, none⟩ i n acc).run P w = .ok v w1 → w1 = w ∧ (loadCellsFrom ⟨b, o, none⟩ i n acc).run P w' = .ok v w'
  | 0, i, acc, v, w1, h => by
    simp only [loadCellsFrom, Sem.run_pure, Result.ok.injEq] at h ⊢
    obtain ⟨rfl, rfl⟩ := h
    exact ⟨rfl, by simp⟩
  | n + 1, i, acc, v, w1, h => by
    simp only [loadCellsFrom] at h ⊢
    rw [Sem.run_bind] at h ⊢
    cases hr : (load ((⟨b, o, none⟩ : Addr).add i)).run P w with
    | halt x w2 => rw [hr] at h; simp [Result.andThen] at h
    | ok u w2 =>
      obtain ⟨rfl, h2⟩ := run_load_same (P := P) hb _ hc i hr
      rw [hr, Result.andThen_ok] at h
      rw [h2, Result.andThen_ok]
      exact run_loadCells_same hb hc n (i+1) _ _ h
theorem run_loadVar_same {w w' : World} {b o : Nat} (hb : w'.heap[b]? = w.heap[b]?) (hc : (w.cell? ⟨b, o, none⟩).isSome = true) (t : TypeId) (v : Value) {w1 : World}
    (h : (loadVar t ⟨b, o, none⟩).run P w = .ok v w1) : w1 = w ∧ (loadVar t ⟨b, o, none⟩).run P w' = .ok v w' := by
  unfold loadVar at *
  rw [Sem.run_bind] at h ⊢
  cases hr : (isAgg t).run P w with
  | halt x w2 => rw [hr] at h; simp [Result.andThen] at h
  | ok g w2 =>
    obtain ⟨rfl, h2⟩ := wl_isAgg t _ _ _ hr
    rw [hr, Result.andThen_ok] at h
    rw [h2, Result.andThen_ok]
    cases g
    · simp only [Bool.false_eq_true, if_false] at h ⊢
      exact run_load_same (P := P) hb .plain hc 0 h
    · simp only [if_true] at h ⊢
      rw [Sem.run_bind] at h ⊢
      cases hs : (sizeOf t).run P w2 with
      | halt x w3 => rw [hs] at h; simp [Result.andThen] at h
      | ok n w3 =>
        obtain ⟨rfl, h3⟩ := wl_sizeOf t _ _ _ hs
        rw [hs, Result.andThen_ok] at h
        rw [h3, Result.andThen_ok]
        rw [Sem.run_bind] at h ⊢
        cases hl : (loadCells ⟨b, o, none⟩ n).run P w3 with
        | halt x w4 => rw [hl] at h; simp [Result.andThen] at h
        | ok cs w4 =>
          obtain ⟨rfl, h4⟩ := run_loadCells_same (P := P) hb hc n 0 _ _ hl
          rw [hl, Result.andThen_ok] at h
          have h4' : (loadCells ⟨b, o, none⟩ n).run P w' = .ok cs w' := h4
          rw [h4', Result.andThen_ok]
          simp only [Sem.run_pure, Result.ok.injEq] at h ⊢
          obtain ⟨rfl, rfl⟩ := h
          exact ⟨rfl, by simp⟩

theorem take_load {i : Nat} {p : Plan} {a : Act} {w : World} {o : Oper} (hi : ops[i]? = some o) {t : TypeId} {x : Operand} (hop : o.op = .load t x) {b off : Nat} (hx : a.eval x = .pointer (some ⟨b, off, none⟩))
    (hw : Region.wanted o (yielded ops a.tmps) = true) (hS : ∀ w', S w' → w'.heap[b]? = w.heap[b]?) (hc : (w.cell? ⟨b, off, none⟩).isSome = true)
    (h : ∀ K, (∀ a' w', wpPlan P ops Q S p a' w' → K a' w') → o.wp P a w K NoQ) : wpPlan P ops Q S (.take i p) a w := by
  refine take_of hi (s := Instr.loadAt t (a.eval x)) hw (by unfold execOp; rw [hop]) (fun v w1 hr => ?_) h
  rw [hx] at hr
  simp only [Instr.loadAt, Instr.sureAddr, Sem.run_bind, Sem.run_pure, Result.andThen_ok] at hr
  refine ⟨(run_loadVar_same (P := P) (w' := w) rfl hc t v hr).1, fun w' hs => ?_⟩
  rw [hx]
  simp only [Instr.loadAt, Instr.sureAddr, Sem.run_bind, Sem.run_pure, Result.andThen_ok]
  exact (run_loadVar_same (P := P) (hS w' hs) hc t v hr).2

/-! ### What acts -/
theorem wp_ofNoQ {o : Oper} {a : Act} {w : World} {K : Act → World → Prop} (hh : o.wp P a w K NoQ) : o.wp P a w K Q := by
  unfold Oper.wp at *
  generalize (execOp a.eval o).run P w = r at *
  cases r with
  | ok n w' =>
    cases n <;> simp only [Oper.upon] at hh ⊢ <;>
      first
        | exact hh
        | exact Calls.mono hh (fun e w'' he => by cases e <;> first | exact he | exact False.elim he | (obtain ⟨_, _, h0⟩ := he; exact False.elim h0))
        | exact Rows.mono hh (fun _ _ he => he)
  | halt x w' => cases x <;> simp only [Oper.upon, NoQ] at hh ⊢
theorem eff_one {i : Nat} {p : Plan} {a : Act} {w : World} {o : Oper} (hi : ops[i]? = some o) (hw : Region.wanted o (yielded ops a.tmps) = true)
    (h : ∀ K, (∀ a' w', (S w' ∧ wpPlan P ops Q S p a' w') → K a' w') → o.wp P a w K NoQ) : wpPlan P ops Q S (.eff i p) a w := by
  show wpOp P ops Q i _ a w
  unfold wpOp
  rw [hi]
  simp only [hw, if_true]
  exact .inl (wp_ofNoQ (h _ fun _ _ h => h))
theorem eff_skip {i : Nat} {p : Plan} {a : Act} {w : World} {o : Oper} (hi : ops[i]? = some o) (hw : Region.wanted o (yielded ops a.tmps) = false) (hS : S w)
    (h : wpPlan P ops Q S p (a.put o.dst undef) w) : wpPlan P ops Q S (.eff i p) a w := by
  show wpOp P ops Q i _ a w
  unfold wpOp
  rw [hi]
  simp only [hw, Bool.false_eq_true, if_false]
  exact ⟨hS, h⟩
theorem eff_two {i j : Nat} {p q : Plan} {a : Act} {w : World} (h1 : wpPlan P ops Q S (.eff i p) a w) (h2 : wpPlan P ops Q S (.eff j q) a w) : wpPlan P ops Q S (.eff2 i j p q) a w := ⟨h1, h2⟩
theorem eff_three {i j k : Nat} {p q r : Plan} {a : Act} {w : World} (h1 : wpPlan P ops Q S (.eff i p) a w) (h2 : wpPlan P ops Q S (.eff j q) a w) (h3 : wpPlan P ops Q S (.eff k r) a w) : wpPlan P ops Q S (.eff3 i j k p q r) a w := ⟨h1, h2, h3⟩

theorem eff_append {i : Nat} {p : Plan} {a : Act} {w : World} {o : Oper} (hi : ops[i]? = some o) (hw : Region.wanted o (yielded ops a.tmps) = true)
    (s x : Operand) (t : TypeId) (hop : o.op = .call { callee := .builtin .append, args := #[s, x], argTypes := #[t, t] })
    (base : Nat) (e : TypeId) (i0 : TypeInfo) (z : Value) (size bytes : Nat) (ht : P.underlying t = some (.slice e)) (hi0 : P.info? e = some i0) (hz : i0.zero = some z)
    (hsize : i0.size = size) (hby : i0.bytes = bytes) (hzs : z.cells.size = size) (hsz : 0 < size)
    (v : Value) (n : Nat) (xs : List Value) (hs : a.eval s = v) (hown : w.ownsRow base e size v n xs)
    (ad : Addr) (m c : Nat) (news : List Value) (hx : a.eval x = .slice (some ad) m c) (hl : news.length = m * size) (hnews : ∀ j u, news[j]? = some u → w.cell? (ad.add j) = some u) (h1 : ∀ u ∈ news, u.oneCell' = true)
    (h63 : n + m ≤ maxLen) (hbytes : (n + m) * bytes ≤ 140737488355328) (hbase : base ≤ w.heap.size)
    (h : ∀ v' w', w'.ownsRow base e size v' (n + m) (xs ++ news) → w.grownBy w' v.ownBlock → (v' = .slice none 0 0 ↔ v = .slice none 0 0 ∧ m = 0) → S w' ∧ wpPlan P ops Q S p (a.put o.dst v') w') : wpPlan P ops Q S (.eff i p) a w :=
  eff_one hi hw fun K hK => wp_append_own w s x t hop base e i0 z size bytes ht hi0 hz hsize hby hzs hsz v n xs hs hown ad m c news hx hl hnews h1 h63 hbytes hbase fun v' w' h2 h3 h4 => hK _ _ (h v' w' h2 h3 h4)

/-! ### What stays: blocks below N, but those of X; the blocks of X stay rows of their length that may be written -/
def Row (w : World) (b n : Nat) : Prop := ∃ cs T, w.heap[b]? = some (.cells cs T (0, 0)) ∧ cs.size = n
theorem Row.of {w : World} {b : Nat} {cs : Array Value} {T : TypeId} (h : w.heap[b]? = some (.cells cs T (0, 0))) : Row w b cs.size := ⟨cs, T, h, rfl⟩
theorem Row.there {w : World} {b n : Nat} (h : Row w b n) : w.there b 0 n := fun j hj => by
  obtain ⟨cs, T, h, rfl⟩ := h
  rw [Nat.zero_add]
  exact ⟨by rw [cell_of_row w b j cs T _ h]; simp [hj], by simp [World.frozen?, h]⟩
theorem Row.cell {w : World} {b n : Nat} (h : Row w b n) (j : Nat) (hj : j < n) : ∃ u, w.cell? ⟨b, j, none⟩ = some u := by
  obtain ⟨h1, _⟩ := h.there j hj
  rw [Nat.zero_add] at h1
  exact Option.isSome_iff_exists.1 h1
theorem Row.free {w : World} {b n : Nat} (h : Row w b n) (j : Nat) : w.frozen? ⟨b, j, none⟩ = false := by
  obtain ⟨cs, T, h, rfl⟩ := h
  simp [World.frozen?, h]
theorem Row.same {w w' : World} {b n : Nat} (h : Row w b n) (hs : w'.heap[b]? = w.heap[b]?) : Row w' b n := by
  obtain ⟨cs, T, h, rfl⟩ := h
  exact ⟨cs, T, hs.trans h, rfl⟩
theorem Row.setCell {w : World} {b n : Nat} (h : Row w b n) (a : Addr) (v : Value) : Row (w.setCell a v) b n := by
  obtain ⟨cs, T, h, rfl⟩ := h
  by_cases e : b = a.block
  · subst e
    refine ⟨if a.spot.isSome then cs else cs.setIfInBounds a.off v, T, ?_, by split <;> simp⟩
    simp [World.setCell, Array.getElem?_modify, h]
  · exact ⟨cs, T, (Below.heap_setCell _ _ _ _ e).trans h, rfl⟩

structure Keep (N : Nat) (X : List (Nat × Nat)) (W w' : World) : Prop where
  mk ::
  a : N ≤ w'.heap.size
  b : ∀ b, b < N → b ∉ X.map (·.1) → w'.heap[b]? = W.heap[b]?
  c : ∀ x ∈ X, x.1 < N ∧ Row w' x.1 x.2
theorem Keep.refl {N : Nat} {X : List (Nat × Nat)} {W : World} (h : N ≤ W.heap.size) (hX : ∀ x ∈ X, x.1 < N ∧ Row W x.1 x.2) : Keep N X W W := ⟨h, fun _ _ _ => rfl, hX⟩
theorem Keep.drew {N : Nat} {X : List (Nat × Nat)} {W w : World} (h : Keep N X W w) : Keep N X W w.drew := ⟨h.a, h.b, h.c⟩
theorem Keep.step {N : Nat} {X : List (Nat × Nat)} {W w w' : World} (h : Keep N X W w) (hs : w.heap.size ≤ w'.heap.size) (k : ∀ b, b < N → w'.heap[b]? = w.heap[b]?) : Keep N X W w' :=
  ⟨Nat.le_trans h.a hs, fun b hb hx => (k b hb).trans (h.b b hb hx), fun x hx => ⟨(h.c x hx).1, (h.c x hx).2.same (k _ (h.c x hx).1)⟩⟩
theorem Keep.alloc {N : Nat} {X : List (Nat × Nat)} {W w : World} (h : Keep N X W w) (o : Obj) : Keep N X W (w.alloc o) :=
  h.step (by simp) fun b hb => Below.heap_alloc _ _ _ (by have := h.a; omega)
theorem Keep.new {N : Nat} {X : List (Nat × Nat)} {W w w' : World} (h : Keep N X W w) (k : Below w.heap.size w w') : Keep N X W w' :=
  h.step k.size fun b hb => k.block b (by have := h.a; omega)
theorem Keep.grown {N : Nat} {X : List (Nat × Nat)} {W w w' : World} {row : Option Nat} (h : Keep N X W w) (k : w.grownBy w' row) (hr : ∀ g, row = some g → N ≤ g) : Keep N X W w' :=
  h.step k.size fun b hb => k.block b (by have := h.a; omega) (fun e => by have := hr b e.symm; omega)
theorem Keep.setCell {N : Nat} {X : List (Nat × Nat)} {W w : World} (h : Keep N X W w) {a : Addr} (v : Value) (hr : N ≤ a.block ∨ a.block ∈ X.map (·.1)) : Keep N X W (w.setCell a v) :=
  ⟨by have := h.a; simp; omega, fun b hb hx => by
    rw [Below.heap_setCell _ _ _ _ (fun e => by rcases hr with h' | h'; omega; exact hx (e ▸ h'))]; exact h.b b hb hx, fun x hx => ⟨(h.c x hx).1, (h.c x hx).2.setCell _ _⟩⟩
/-- a block that stays holds in every world that keeps what it holds now -/
theorem Keep.same {N : Nat} {X : List (Nat × Nat)} {W w : World} (h : Keep N X W w) {b : Nat} (hb : b < N) (hx : b ∉ X.map (·.1)) : ∀ w', Keep N X W w' → w'.heap[b]? = w.heap[b]? :=
  fun w' h' => (h'.b b hb hx).trans (h.b b hb hx).symm
theorem Keep.cell {N : Nat} {X : List (Nat × Nat)} {W w : World} (h : Keep N X W w) {b o : Nat} (hb : b < N) (hx : b ∉ X.map (·.1)) : w.cell? ⟨b, o, none⟩ = W.cell? ⟨b, o, none⟩ := World.cell?_of_block (w := W) (h.b b hb hx)
theorem Keep.row {N : Nat} {X : List (Nat × Nat)} {W w : World} (h : Keep N X W w) {b n : Nat} (hx : (b, n) ∈ X) : Row w b n := (h.c _ hx).2
theorem Keep.old {N : Nat} {X : List (Nat × Nat)} {W w v : World} (h : Keep N X W w) (hn : Below v.heap.size v W) (hN : v.heap.size ≤ N) (hX : ∀ x ∈ X, v.heap.size ≤ x.1) : ∀ b, b < v.heap.size → w.heap[b]? = v.heap[b]? :=
  fun b hb => (h.b b (by omega) (fun hm => by obtain ⟨x, hx, rfl⟩ := List.mem_map.1 hm; have := hX x hx; omega)).trans (hn.block b hb)
theorem Keep.le {N B : Nat} {X : List (Nat × Nat)} {W w : World} (h : Keep N X W w) (hB : B ≤ N) : B ≤ w.heap.size := Nat.le_trans hB h.a
theorem and_then {A B : Prop} (a : A) (b : A → B) : A ∧ B := ⟨a, b a⟩
theorem take_load' {N : Nat} {X : List (Nat × Nat)} {W : World} {i : Nat} {p : Plan} {a : Act} {w : World} {o : Oper} (hi : ops[i]? = some o) {t : TypeId} {x : Operand} (hop : o.op = .load t x) {b off : Nat} (hx : a.eval x = .pointer (some ⟨b, off, none⟩))
    (hw : Region.wanted o (yielded ops a.tmps) = true) (hk : Keep N X W w) (hb : b < N) (hX : b ∉ X.map (·.1)) {u : Value} (hc : W.cell? ⟨b, off, none⟩ = some u)
    (h : ∀ K, (∀ a' w', wpPlan P ops Q (Keep N X W) p a' w' → K a' w') → o.wp P a w K NoQ) : wpPlan P ops Q (Keep N X W) (.take i p) a w :=
  take_load hi hop hx hw (hk.same hb hX) (by rw [hk.cell hb hX, hc]; rfl) h
theorem eff_append_keep {N : Nat} {X : List (Nat × Nat)} {W : World} {i : Nat} {p : Plan} {a : Act} {w : World} {o : Oper} (hi : ops[i]? = some o) (hw : Region.wanted o (yielded ops a.tmps) = true)
    (s x : Operand) (t : TypeId) (hop : o.op = .call { callee := .builtin .append, args := #[s, x], argTypes := #[t, t] })
    (base : Nat) (e : TypeId) (i0 : TypeInfo) (z : Value) (size bytes : Nat) (ht : P.underlying t = some (.slice e)) (hi0 : P.info? e = some i0) (hz : i0.zero = some z)
    (hsize : i0.size = size) (hby : i0.bytes = bytes) (hzs : z.cells.size = size) (hsz : 0 < size)
    (v : Value) (n : Nat) (xs : List Value) (hs : a.eval s = v) (hown : w.ownsRow base e size v n xs)
    (ad : Addr) (m c : Nat) (news : List Value) (hx : a.eval x = .slice (some ad) m c) (hl : news.length = m * size) (hnews : ∀ j u, news[j]? = some u → w.cell? (ad.add j) = some u) (h1 : ∀ u ∈ news, u.oneCell' = true)
    (h63 : n + m ≤ maxLen) (hbytes : (n + m) * bytes ≤ 140737488355328) (hbase : base ≤ w.heap.size) (hk : Keep N X W w) (hN : N ≤ base)
    (h : ∀ v' w', w'.ownsRow base e size v' (n + m) (xs ++ news) → w.grownBy w' v.ownBlock → Keep N X W w' → wpPlan P ops Q (Keep N X W) p (a.put o.dst v') w') : wpPlan P ops Q (Keep N X W) (.eff i p) a w :=
  eff_append hi hw s x t hop base e i0 z size bytes ht hi0 hz hsize hby hzs hsz v n xs hs hown ad m c news hx hl hnews h1 h63 hbytes hbase fun v' w' h2 h3 _ =>
    have hk' : Keep N X W w' := hk.grown h3 fun g hg => Nat.le_trans hN (hown.lt g hg).1
    ⟨hk', h v' w' h2 h3 hk'⟩
end Go.Draw
