/- More steps of plans: build, an append of any slice, blocks made within a plan. -/
import Derived.Test.YtbomebnonkcieaaD3
import Derived.Test.YtbomebnonkcieaaM
import Derived.Maps.AppendAt
namespace Go.Draw
open Go.RowKit Go.Mem
variable {P : Program} {ops : Array Oper} {Q : Exit → Act → World → Prop} {S : World → Prop}

/-! ### build looks at no memory -/
theorem wl_listMapM {α β : Type} (f : α → Sem β) (hf : ∀ a, WL P (f a)) : ∀ l : List α, WL P (l.mapM f)
  | [] => by rw [List.mapM_nil]; exact wl_pure _
  | a :: l => by rw [List.mapM_cons]; exact (hf a).bind fun _ => (wl_listMapM f hf l).bind fun _ => wl_pure _
theorem wl_arrMapM {α β : Type} (f : α → Sem β) (hf : ∀ a, WL P (f a)) (l : Array α) : WL P (l.mapM f) := by
  rw [Array.mapM_eq_mapM_toList]
  exact (wl_listMapM f hf _).bind fun _ => wl_pure _
theorem wl_build (t : TypeId) (ps : Array (Nat × Value)) : WL P (Instr.build t ps) := by
  unfold Instr.build
  refine (wl_zeroValue t).bind fun z => ?_
  refine (wl_underlying t).bind fun d => ?_
  split
  · refine (wl_arrMapM _ (fun f => (wl_sizeOf _).bind fun _ => wl_pure _) _).bind fun _ => ?_
    split
    · exact wl_pure _
    · exact wl_stuck _
  · refine (wl_sizeOf _).bind fun _ => ?_
    split
    · exact wl_pure _
    · exact wl_stuck _
  · exact wl_stuck _
theorem take_build {i : Nat} {p : Plan} {a : Act} {w : World} {o : Oper} (hi : ops[i]? = some o) {t : TypeId} {ps : Array (Nat × Operand)} (hop : o.op = .build t ps)
    (hw : Region.wanted o (yielded ops a.tmps) = true)
    (h : ∀ K, (∀ a' w', wpPlan P ops Q S p a' w' → K a' w') → o.wp P a w K NoQ) : wpPlan P ops Q S (.take i p) a w :=
  take_wl hi (s := Instr.build t (ps.map fun (i, x) => (i, a.eval x))) hw (by unfold execOp; rw [hop]) (wl_build _ _) h

/-! ### append of whatever slice -/
theorem run_append_none (w : World) (t ty : TypeId) (base : Nat) (e : TypeId) (i : TypeInfo) (size : Nat) (ht : P.underlying t = some (.slice e)) (hi : P.info? e = some i)
    (v : Value) (n : Nat) (xs : List Value) (hown : w.ownsRow base e size v n xs) (c : Nat) : (Builtin.append_ #[t, t] ty #[v, .slice none 0 c]).run P w = .ok v w := by
  obtain ⟨b, cap, rfl, hcap⟩ : ∃ b cap, v = .slice b n cap ∧ n ≤ cap := by
    obtain ⟨_, ⟨rfl, rfl⟩ | ⟨g, cap, cur, rfl, _, _, h, _⟩⟩ := hown
    · exact ⟨none, 0, rfl, Nat.le_refl _⟩
    · exact ⟨_, cap, rfl, h⟩
  cases b <;> simp [Builtin.append_, run_underlying ht, sizeOf, typeInfo, hi, Builtin.lenOf, hcap, Builtin.firstCells, storeCells]

theorem run_append_sl (w : World) (t ty : TypeId) (base : Nat) (e : TypeId) (i : TypeInfo) (z : Value) (size bytes : Nat) (ht : P.underlying t = some (.slice e)) (hi : P.info? e = some i) (hz : i.zero = some z)
    (hsize : i.size = size) (hby : i.bytes = bytes) (hzs : z.cells.size = size) (hsz : 0 < size)
    (v : Value) (n : Nat) (xs : List Value) (hown : w.ownsRow base e size v n xs)
    (u : Value) (m : Nat) (news : List Value) (hu : Sl w u m news) (hl : news.length = m * size) (h1 : ∀ u ∈ news, u.oneCell' = true)
    (h63 : n + m ≤ maxLen) (hbytes : (n + m) * bytes ≤ 140737488355328) (hbase : base ≤ w.heap.size) :
    ∃ v' w', (Builtin.append_ #[t, t] ty #[v, u]).run P w = .ok v' w' ∧ w'.ownsRow base e size v' (n + m) (xs ++ news) ∧ w.grownBy w' v.ownBlock ∧
      (v'.ownBlock = v.ownBlock ∨ v'.ownBlock = some w.heap.size) := by
  obtain ⟨ao, cap, rfl, hc, _, hr, hao, hnil⟩ := hu
  cases ao with
  | none =>
    have h0 := hao rfl
    obtain rfl : m = 0 := by omega
    obtain rfl := hnil rfl
    subst h0
    exact ⟨v, w, run_append_none w t ty base e i size ht hi v n xs hown 0, by simpa using hown, ⟨rfl, rfl, rfl, Nat.le_refl _, fun _ _ _ => rfl⟩, .inl rfl⟩
  | some ad =>
    obtain ⟨v', w', h1, h2, h3, _, h5⟩ := run_append_own_at (P := P) w base t ty e i z size bytes ht hi hz hsize hby hzs hsz v n xs hown ad m cap news hl (fun j u hj => by
      have hm : m ≠ 0 := by rintro rfl; rw [hnil rfl] at hj; simp at hj
      obtain ⟨b, o, e, hx⟩ := hr hm
      cases e
      rw [Addr.add_mid]; exact hx j u hj) h1 h63 hbytes hbase
    exact ⟨v', w', h1, h2, h3, h5⟩

theorem wp_append_sl {o : Oper} {a : Act} {w : World} {K : Act → World → Prop} (s x : Operand) (t : TypeId)
    (ho : o.op = .call { callee := .builtin .append, args := #[s, x], argTypes := #[t, t] })
    (base : Nat) (e : TypeId) (i : TypeInfo) (z : Value) (size bytes : Nat) (ht : P.underlying t = some (.slice e)) (hi : P.info? e = some i) (hz : i.zero = some z)
    (hsize : i.size = size) (hby : i.bytes = bytes) (hzs : z.cells.size = size) (hsz : 0 < size)
    (v : Value) (n : Nat) (xs : List Value) (hs : a.eval s = v) (hown : w.ownsRow base e size v n xs)
    (u : Value) (m : Nat) (news : List Value) (hx : a.eval x = u) (hu : Sl w u m news) (hl : news.length = m * size) (h1 : ∀ u ∈ news, u.oneCell' = true)
    (h63 : n + m ≤ maxLen) (hbytes : (n + m) * bytes ≤ 140737488355328) (hbase : base ≤ w.heap.size)
    (h : ∀ v' w', w'.ownsRow base e size v' (n + m) (xs ++ news) → w.grownBy w' v.ownBlock → (v'.ownBlock = v.ownBlock ∨ v'.ownBlock = some w.heap.size) → K (a.put o.dst v') w') : o.wp P a w K Q := by
  obtain ⟨v', w', hr, h2, h3, h4⟩ := run_append_sl (P := P) w t o.type base e i z size bytes ht hi hz hsize hby hzs hsz v n xs hown u m news hu hl h1 h63 hbytes hbase
  unfold Oper.wp execOp
  simp only [ho, resolve, invoke, builtin, Sem.run_bind, Sem.run_pure, Result.andThen_ok, List.map_toArray, List.map_cons, List.map_nil, hs, hx, hr]
  exact h v' w' h2 h3 h4

theorem wpList_append_sl {rest : List Oper} {o : Oper} {a : Act} {w : World} (hgd : o.guard = none) (s x : Operand) (t : TypeId)
    (ho : o.op = .call { callee := .builtin .append, args := #[s, x], argTypes := #[t, t] })
    (base : Nat) (e : TypeId) (i : TypeInfo) (z : Value) (size bytes : Nat) (ht : P.underlying t = some (.slice e)) (hi : P.info? e = some i) (hz : i.zero = some z)
    (hsize : i.size = size) (hby : i.bytes = bytes) (hzs : z.cells.size = size) (hsz : 0 < size)
    (v : Value) (n : Nat) (xs : List Value) (hs : a.eval s = v) (hown : w.ownsRow base e size v n xs)
    (u : Value) (m : Nat) (news : List Value) (hx : a.eval x = u) (hu : Sl w u m news) (hl : news.length = m * size) (h1 : ∀ u ∈ news, u.oneCell' = true)
    (h63 : n + m ≤ maxLen) (hbytes : (n + m) * bytes ≤ 140737488355328) (hbase : base ≤ w.heap.size)
    (h : ∀ v' w', w'.ownsRow base e size v' (n + m) (xs ++ news) → w.grownBy w' v.ownBlock → (v'.ownBlock = v.ownBlock ∨ v'.ownBlock = some w.heap.size) → wpList P ops Q rest (a.put o.dst v') w') : wpList P ops Q (o :: rest) a w :=
  wpList_plain hgd fun _ hK => wp_append_sl s x t ho base e i z size bytes ht hi hz hsize hby hzs hsz v n xs hs hown u m news hx hu hl h1 h63 hbytes hbase fun v' w' h2 h3 h4 => hK _ _ (h v' w' h2 h3 h4)

/-- onto a row of one's own, within a plan -/
theorem eff_append_sl {N : Nat} {X : List (Nat × Nat)} {W : World} {i : Nat} {p : Plan} {a : Act} {w : World} {o : Oper} (hi : ops[i]? = some o) (hw : Region.wanted o (yielded ops a.tmps) = true)
    (s x : Operand) (t : TypeId) (hop : o.op = .call { callee := .builtin .append, args := #[s, x], argTypes := #[t, t] })
    (base : Nat) (e : TypeId) (i0 : TypeInfo) (z : Value) (size bytes : Nat) (ht : P.underlying t = some (.slice e)) (hi0 : P.info? e = some i0) (hz : i0.zero = some z)
    (hsize : i0.size = size) (hby : i0.bytes = bytes) (hzs : z.cells.size = size) (hsz : 0 < size)
    (v : Value) (n : Nat) (xs : List Value) (hs : a.eval s = v) (hown : w.ownsRow base e size v n xs)
    (u : Value) (m : Nat) (news : List Value) (hx : a.eval x = u) (hu : Sl w u m news) (hl : news.length = m * size) (h1 : ∀ u ∈ news, u.oneCell' = true)
    (h63 : n + m ≤ maxLen) (hbytes : (n + m) * bytes ≤ 140737488355328) (hbase : base ≤ w.heap.size) (hk : Keep N X W w) (hN : N ≤ base) (k : Nat) (hnm : n + m = k) (ys : List Value) (hys : xs ++ news = ys)
    (h : ∀ ao cap w', Hid (w'.ownsRow base e size (.slice ao k cap) k ys) → Hid (w.grownBy w' v.ownBlock) → Hid ((Value.slice ao k cap).ownBlock = v.ownBlock ∨ (Value.slice ao k cap).ownBlock = some w.heap.size) → Keep N X W w' →
      wpPlan P ops Q (Keep N X W) p (a.put o.dst (.slice ao k cap)) w') : wpPlan P ops Q (Keep N X W) (.eff i p) a w :=
  eff_one hi hw fun K hK => wp_append_sl s x t hop base e i0 z size bytes ht hi0 hz hsize hby hzs hsz v n xs hs hown u m news hx hu hl h1 h63 hbytes hbase fun v' w' h2 h3 h4 => by
    rw [hnm, hys] at h2
    obtain ⟨ao, cap, rfl⟩ := owns_shape h2
    have hk' : Keep N X W w' := hk.grown h3 fun g hg => by
      obtain ⟨_, ⟨rfl, _⟩ | ⟨g', cap', cur', rfl, hb, _⟩⟩ := hown
      · simp [Value.ownBlock] at hg
      · simp [Value.ownBlock] at hg; omega
    exact hK _ _ ⟨hk', h ao cap w' h2 h3 h4 hk'⟩

/-! ### blocks known whole -/
def Held (L : List (Nat × Obj)) (w : World) : Prop := ∀ x ∈ L, w.heap[x.1]? = some x.2
theorem Held.nil (w : World) : Held [] w := fun _ h => by simp at h
theorem Held.lt {L : List (Nat × Obj)} {w : World} (h : Held L w) {x : Nat × Obj} (hx : x ∈ L) : x.1 < w.heap.size := (Array.getElem?_eq_some_iff.1 (h x hx)).1
theorem Held.new {L : List (Nat × Obj)} {w w' : World} (h : Held L w) (k : New w w') : Held L w' := fun x hx => (k.block _ (h.lt hx)).trans (h x hx)
theorem Held.grown {L : List (Nat × Obj)} {w w' : World} {row : Option Nat} (h : Held L w) (k : w.grownBy w' row) (hr : ∀ x ∈ L, some x.1 ≠ row) : Held L w' :=
  fun x hx => (k.block _ (h.lt hx) (hr x hx)).trans (h x hx)
theorem Held.alloc {L : List (Nat × Obj)} {w : World} (h : Held L w) (o : Obj) : Held ((w.heap.size, o) :: L) (w.alloc o) := fun x hx => by
  rcases List.mem_cons.1 hx with rfl | hx
  · exact heap_alloc_new _ _
  · exact (h.new ((Below.refl _ _).alloc (Nat.le_refl _) o)) x hx

/-- v's own row is none of them -/
def Apart (L : List (Nat × Obj)) (v : Value) : Prop := ∀ x ∈ L, ∀ g, v.ownBlock = some g → x.1 ≠ g
theorem Apart.start {L : List (Nat × Obj)} {w w' : World} {base size n : Nat} {e : TypeId} {v : Value} {xs : List Value} (h : Held L w) (ho : w'.ownsRow base e size v n xs) (hb : w.heap.size ≤ base) : Apart L v := fun x hx g hg => by
  have := h.lt hx
  have := (ho.lt g hg).1
  omega
theorem Apart.cons {L : List (Nat × Obj)} {w : World} {base size n d : Nat} {o : Obj} {e : TypeId} {v : Value} {xs : List Value} (h : Apart L v) (ho : w.ownsRow base e size v n xs) (hd : d = w.heap.size) : Apart ((d, o) :: L) v := fun x hx g hg => by
  rcases List.mem_cons.1 hx with rfl | hx
  · have := (ho.lt g hg).2
    omega
  · exact h x hx g hg
theorem Apart.append {L : List (Nat × Obj)} {w : World} {v v' : Value} (h : Apart L v) (hl : Held L w) (k : v'.ownBlock = v.ownBlock ∨ v'.ownBlock = some w.heap.size) : Apart L v' := fun x hx g hg => by
  rcases k with k | k
  · exact h x hx g (k ▸ hg)
  · have := hl.lt hx
    rw [k] at hg
    cases hg
    omega
theorem Held.append {L : List (Nat × Obj)} {w w' : World} {v : Value} (h : Held L w) (k : w.grownBy w' v.ownBlock) (ha : Apart L v) : Held L w' :=
  h.grown k fun x hx e => ha x hx x.1 e.symm rfl
theorem New.of_grown {w w' : World} (k : w.grownBy w' none) : New w w' := Below.grown (Below.refl _ _) k (Nat.le_refl _) (by simp)
theorem owns_same {w w' : World} {base size n : Nat} {e : TypeId} {v : Value} {xs : List Value} (h : w.ownsRow base e size v n xs) (hs : ∀ g, v.ownBlock = some g → w'.heap[g]? = w.heap[g]?) : w'.ownsRow base e size v n xs := by
  refine ⟨h.1, h.2.imp id ?_⟩
  rintro ⟨g, cap, cur, rfl, h1, h2, h3⟩
  exact ⟨g, cap, cur, rfl, h1, (hs g rfl).trans h2, h3⟩
theorem _root_.Go.Mem.Sl.of_block {w : World} {b n : Nat} {cs : Array Value} {e : TypeId} (h : w.heap[b]? = some (.cells cs e (0, 0))) {vs : List Value} (hv : cs.toList = vs) (hn : 0 < n) (hm : n ≤ 281474976710656 := by decide) : Sl w (.slice (some ⟨b, 0, none⟩) n n) n vs := by
  subst hv
  refine ⟨_, n, rfl, Nat.le_refl _, hm, fun _ => ⟨b, 0, rfl, fun j u hu => ?_⟩, fun h => by simp at h, fun h => by omega⟩
  rw [Nat.zero_add, cell_of_row w b j cs e (0, 0) h]
  simpa using hu

theorem owns_le {w : World} {base base' size n : Nat} {e : TypeId} {v : Value} {xs : List Value} (h : w.ownsRow base e size v n xs) (hb : base' ≤ base) : w.ownsRow base' e size v n xs := by
  refine ⟨h.1, h.2.imp id ?_⟩
  rintro ⟨g, cap, cur, rfl, h1, h2⟩
  exact ⟨g, cap, cur, rfl, Nat.le_trans hb h1, h2⟩
theorem heap_set2 {w : World} {d : Nat} {a b : Value} {T : TypeId} (h : w.heap[d]? = some (.cells #[a, b] T (0, 0))) (u v : Value) :
    ((w.setCell ⟨d, 0, none⟩ u).setCell ⟨d, 1, none⟩ v).heap[d]? = some (.cells #[u, v] T (0, 0)) := by
  simp [World.setCell, Array.getElem?_modify, h]

theorem eff_alloc {N : Nat} {X : List (Nat × Nat)} {W : World} {i : Nat} {p : Plan} {a : Act} {w : World} {o : Oper} (hi : ops[i]? = some o) (hw : Region.wanted o (yielded ops a.tmps) = true)
    (t : TypeId) (hop : o.op = .alloc t) (z : Value) (hz : ∀ w, (zeroValue t).run P w = .ok z w) (hk : Keep N X W w) {L : List (Nat × Obj)} (HL : Hid (Held L w))
    (h : ∀ d w', Hid (d = w.heap.size) → Hid (N ≤ d) → Hid (Held ((d, .cells z.cells t) :: L) w') → Hid (New w w') → Keep N X W w' → wpPlan P ops Q (Keep N X W) p (a.put o.dst (.pointer (some ⟨d, 0, none⟩))) w') : wpPlan P ops Q (Keep N X W) (.eff i p) a w :=
  eff_one hi hw fun K hK => by
    unfold Oper.wp execOp
    simp [hop, Sem.run_bind, Instr.alloc, hz, Result.andThen_ok, newVar]
    exact hK _ _ ⟨hk.alloc _, h _ _ rfl hk.a (HL.out.alloc _) ((Below.refl _ _).alloc (Nat.le_refl _) _) (hk.alloc _)⟩

/-- a slice of one element written out -/
theorem eff_make1 {N : Nat} {X : List (Nat × Nat)} {W : World} {i : Nat} {p : Plan} {a : Act} {w : World} {o : Oper} (hi : ops[i]? = some o) (hw : Region.wanted o (yielded ops a.tmps) = true)
    (t e : TypeId) (x : Operand) (hop : o.op = .buildSlice t 1 #[(0, x)]) (i0 : TypeInfo) (z : Value) (ht : P.underlying t = some (.slice e)) (hi0 : P.info? e = some i0) (hz : i0.zero = some z)
    (hsize : i0.size = 1) (hzs : z.cells.size = 1) (u : Value) (hu : a.eval x = u) (huc : u.cells = #[u]) (hk : Keep N X W w) {L : List (Nat × Obj)} (HL : Hid (Held L w))
    (h : ∀ d w', Hid (d = w.heap.size) → Hid (N ≤ d) → Hid (Held ((d, .cells #[u] e) :: L) w') → Hid (New w w') → Keep N X W w' → wpPlan P ops Q (Keep N X W) p (a.put o.dst (.slice (some ⟨d, 0, none⟩) 1 1)) w') : wpPlan P ops Q (Keep N X W) (.eff i p) a w :=
  eff_one hi hw fun K hK => by
    unfold Oper.wp execOp
    have e1 : (Array.map (fun x => z.cells[x % 1]!) (Array.range 1)).setIfInBounds 0 u = #[u] := by
      have : Array.range 1 = #[0] := rfl
      simp [this]
    simp [hop, Sem.run_bind, Instr.buildSlice, run_underlying ht, sizeOf, typeInfo, zeroValue, hi0, hz, hsize, hzs, hu, huc, Instr.fill, e1]
    exact hK _ _ ⟨hk.alloc _, h _ _ rfl hk.a (HL.out.alloc _) ((Below.refl _ _).alloc (Nat.le_refl _) _) (hk.alloc _)⟩
end Go.Draw
