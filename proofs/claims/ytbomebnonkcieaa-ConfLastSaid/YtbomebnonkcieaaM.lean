import Derived.WalkKit
import Derived.WalkSpells
import Derived.Deep.MidRow
import Derived.Lib.Hide
namespace Go
section
variable {P : Program} (w : World)
@[go_sem] theorem gs_eql_slice_nil (t : TypeId) (a : Option Addr) (n c n' c' : Nat) (h : P.underlying t = some (.slice (P.elem t))) :
    (binOp .eql t (.slice a n c) (.slice none n' c')).run P w = .ok (.bool a.isNone) w := Lib.run_eql_slice_nil w t _ a n c n' c' h
@[go_sem] theorem gs_neq_slice_nil (t : TypeId) (a : Option Addr) (n c n' c' : Nat) (h : P.underlying t = some (.slice (P.elem t))) :
    (binOp .neq t (.slice a n c) (.slice none n' c')).run P w = .ok (.bool (!a.isNone)) w := run_neq_slice_nil_any w t _ a n c n' c' h
end
end Go
namespace Go.Mem
open Go.RowKit

/-- only new blocks -/
abbrev New (w w' : World) : Prop := Below w.heap.size w w'
theorem New.refl (w : World) : New w w := Below.refl _ _
theorem New.trans {a b c : World} (h : New a b) (k : New b c) : New a c := Below.trans h (Below.mono k h.size)
theorem New.cells {W w1 : World} (hb : New W w1) : (∀ b o, b < W.heap.size → w1.cell? ⟨b, o, none⟩ = W.cell? ⟨b, o, none⟩) ∧ (∀ b o, b < W.heap.size → w1.frozen? ⟨b, o, none⟩ = W.frozen? ⟨b, o, none⟩) :=
  ⟨fun b o h => Below.cell hb (p := ⟨b, o, none⟩) h, fun b o h => Below.frozen hb (p := ⟨b, o, none⟩) h⟩

/-- the slice value v has n elements, whose cells are vs -/
def Sl (w : World) (v : Value) (n : Nat) (vs : List Value) : Prop :=
  ∃ ao cap, v = .slice ao n cap ∧ n ≤ cap ∧ n ≤ 281474976710656 ∧ (n ≠ 0 → ∃ b o, ao = some ⟨b, o, none⟩ ∧ w.rangeAt b o vs) ∧ (ao = none → cap = 0) ∧ (n = 0 → vs = [])

theorem Sl.below {B : Nat} {w w' : World} {v : Value} {n : Nat} {vs : List Value} (h : Sl w v n vs) (hb : Below B w w') (hB : ∀ b o, v = .slice (some ⟨b, o, none⟩) n vs.length → True) (hs : B = w.heap.size) : Sl w' v n vs := by
  obtain ⟨ao, cap, rfl, h1, h2, h3, h4⟩ := h
  refine ⟨ao, cap, rfl, h1, h2, fun hn => ?_, h4⟩
  obtain ⟨b, o, rfl, hr⟩ := h3 hn
  refine ⟨b, o, rfl, fun j u hu => ?_⟩
  have := hr j u hu
  rw [Below.cell hb (p := ⟨b, o + j, none⟩) (by rw [hs]; exact World.block_lt_of_cell? w _ this)]
  exact this
theorem Sl.new {w w' : World} {v : Value} {n : Nat} {vs : List Value} (h : Sl w v n vs) (hb : New w w') : Sl w' v n vs := h.below hb (fun _ _ _ => trivial) rfl
theorem Sl.alloc {w : World} {v : Value} {n : Nat} {vs : List Value} (h : Sl w v n vs) (o : Obj) : Sl (w.alloc o) v n vs := h.new ((Below.refl _ _).alloc (Nat.le_refl _) o)
theorem Sl.drew {w : World} {v : Value} {n : Nat} {vs : List Value} (h : Sl w v n vs) : Sl w.drew v n vs := h
theorem Sl.nil (w : World) : Sl w (.slice none 0 0) 0 [] := ⟨none, 0, rfl, Nat.le_refl _, by decide, fun h => absurd rfl h, fun _ => rfl, fun _ => rfl⟩

theorem Sl.of_owns {w : World} {base : Nat} {e : TypeId} {v : Value} {n : Nat} {xs : List Value} (h : w.ownsRow base e 1 v n xs) (hn : n ≤ 281474976710656) : Sl w v n xs := by
  obtain ⟨hl, ⟨rfl, rfl⟩ | ⟨g, cap, cur, rfl, hg, hh, hc, hm, hs, ht⟩⟩ := h
  · have : xs = [] := List.eq_nil_of_length_eq_zero (by simpa using hl)
    subst this
    exact Sl.nil w
  · refine ⟨_, cap, rfl, hc, hn, fun _ => ⟨g, 0, rfl, fun j u hu => ?_⟩, fun h => by simp at h, fun h => ?_⟩
    · rw [Nat.zero_add, cell_of_row w g j cur e (0, 0) hh]
      rw [← ht, List.getElem?_take] at hu
      split at hu
      · simpa using hu
      · cases hu
    · subst h; exact List.eq_nil_of_length_eq_zero (by simpa using hl)

/-- integers -/
def SlI (w : World) (v : Value) (l : List Int) : Prop := Sl w v l.length (l.map (Value.int .i64))
theorem Sl.same {w w' : World} {v : Value} {n : Nat} {vs : List Value} (h : Sl w v n vs) (hs : ∀ b, b < w.heap.size → w'.heap[b]? = w.heap[b]?) : Sl w' v n vs := by
  obtain ⟨ao, cap, rfl, h1, h2, h3, h4⟩ := h
  refine ⟨ao, cap, rfl, h1, h2, fun hn => ?_, h4⟩
  obtain ⟨b, o, rfl, hr⟩ := h3 hn
  refine ⟨b, o, rfl, fun j u hu => ?_⟩
  have := hr j u hu
  rw [World.cell?_of_block (w := w) (hs b (World.block_lt_of_cell? w _ this))]
  exact this
theorem SlI.same {w w' : World} {v : Value} {l : List Int} (h : SlI w v l) (hs : ∀ b, b < w.heap.size → w'.heap[b]? = w.heap[b]?) : SlI w' v l := Sl.same h hs
theorem SlI.agg {w : World} {v : Value} {l : List Int} (h : SlI w v l) : ∃ ao cap, v = .slice ao l.length cap := by
  obtain ⟨ao, cap, rfl, _⟩ := h; exact ⟨ao, cap, by simp⟩
theorem SlI.new {w w' : World} {v : Value} {l : List Int} (h : SlI w v l) (hb : New w w') : SlI w' v l := Sl.new h hb
theorem SlI.open {w : World} {v : Value} {l : List Int} (h : SlI w v l) : ∃ ao cap, v = .slice ao l.length cap ∧ l.length ≤ cap ∧ l.length ≤ 281474976710656 ∧ Hid (ao = none → cap = 0) ∧
    Hid (∀ k, k < l.length → ∃ b o y, ao = some ⟨b, o, none⟩ ∧ w.cell? ⟨b, o + k, none⟩ = some (.int .i64 y) ∧ Hid (l[k]? = some y)) := by
  obtain ⟨ao, cap, rfl, h1, h2, h3, h4, h5⟩ := h
  refine ⟨ao, cap, rfl, h1, h2, h4, fun k hk => ?_⟩
  obtain ⟨b, o, rfl, hr⟩ := h3 (by omega)
  exact ⟨b, o, l[k], rfl, hr k _ (by simp [hk]), by simp [Hid, hk]⟩

theorem SlI.take {w : World} {ao : Option Addr} {n cap : Nat} {l : List Int} (h : SlI w (.slice ao n cap) l) {k : Nat} (hk : k ≤ l.length) : SlI w (.slice ao k cap) (l.take k) := by
  obtain ⟨ao', cap', he, h1, h2, h3, h4, h5⟩ := h
  cases he
  have hl : (l.take k).length = k := by simp; omega
  refine ⟨ao, cap, by rw [hl], by omega, by omega, fun hn => ?_, h4, fun h0 => by simp [List.eq_nil_of_length_eq_zero h0]⟩
  obtain ⟨b, o, rfl, hr⟩ := h3 (by omega)
  refine ⟨b, o, rfl, fun j u hu => hr j u ?_⟩
  rw [List.map_take, List.getElem?_take] at hu
  split at hu
  · exact hu
  · cases hu
theorem SlI.alloc {w : World} {v : Value} {l : List Int} (h : SlI w v l) (o : Obj) : SlI (w.alloc o) v l := Sl.alloc h o

theorem SlI.of_owns {w : World} {base : Nat} {e : TypeId} {v : Value} {n : Nat} {xs : List Value} {l : List Int} (h : w.ownsRow base e 1 v n xs) (hx : xs = l.map (Value.int .i64)) (hn : l.length ≤ 281474976710656) : SlI w v l := by
  subst hx
  have e : n = l.length := by have := h.1; simp at this; omega
  subst e
  exact Sl.of_owns h hn

theorem owns_shape {w : World} {base : Nat} {e : TypeId} {size : Nat} {v : Value} {n : Nat} {xs : List Value} (h : w.ownsRow base e size v n xs) : ∃ ao cap, v = .slice ao n cap := by
  obtain ⟨_, ⟨rfl, rfl⟩ | ⟨g, cap, cur, rfl, _⟩⟩ := h
  · exact ⟨none, 0, rfl⟩
  · exact ⟨_, _, rfl⟩

theorem owns_new {w w' : World} {base : Nat} {e : TypeId} {size : Nat} {v : Value} {n : Nat} {xs : List Value} (h : w.ownsRow base e size v n xs) (k : New w w') : w'.ownsRow base e size v n xs := by
  obtain ⟨h1, h2⟩ := h
  refine ⟨h1, h2.imp id fun ⟨g, cap, cur, hv, hb, hh, r⟩ => ⟨g, cap, cur, hv, hb, ?_, r⟩⟩
  rw [k.block g (Array.getElem?_eq_some_iff.1 hh).1]; exact hh

end Go.Mem
