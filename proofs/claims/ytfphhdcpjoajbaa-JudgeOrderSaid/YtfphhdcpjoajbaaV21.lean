/- What goes on behind a step, kept under a name. -/
import Derived.Test.YtfphhdcpjoajbaaV20
namespace Go.VM
variable {P : Program} {T : List Ty} {N : Nat}
theorem c_seqB {f : List VV} {h : Heap} {K : Exit → List VV → Heap → Prop} {a b : Code} (k : ∀ B : List VV → Heap → Prop, (∀ f h, codeK P T N b f h K → B f h) → codeK P T N a f h (seqE K B)) : codeK P T N (.seq a b) f h K :=
  k _ fun _ _ h => h
theorem c_gen {f : List VV} {h : Heap} {K : Exit → List VV → Heap → Prop} {a : Code} {B0 : List VV → Heap → Prop} (k : ∀ B : List VV → Heap → Prop, (∀ f h, B0 f h → B f h) → codeK P T N a f h (seqE K B)) : codeK P T N a f h (seqE K B0) :=
  k _ fun _ _ h => h
section
variable {A : Type} {enc : A → List VV} {s : Nat}
theorem rowsV_split {l : List A} {i : Nat} (hi : i < l.length) : rowsV enc l = rowsV enc (l.take i) ++ (enc l[i] ++ rowsV enc (l.drop (i + 1))) := by
  conv => lhs; rw [← List.take_append_drop i l, rowsV_append, List.drop_eq_getElem_cons hi, rowsV_cons]
/-- a part of an element -/
theorem takeC_part (he : ∀ x, (enc x).length = s) {l : List A} {i : Nat} (hi : i < l.length) {a b c : List VV} (hx : enc l[i] = a ++ (b ++ c)) {off n : Nat} (ho : off = i * s + a.length) (hn : n = b.length) {K : List VV → Prop} (hk : K b) : takeC (rowsV enc l) off n K := by
  have hl : (rowsV enc (l.take i)).length = i * s := by rw [rowsV_length he, List.length_take, Nat.min_eq_left (Nat.le_of_lt hi)]
  have e : rowsV enc l = (rowsV enc (l.take i) ++ a) ++ (b ++ (c ++ rowsV enc (l.drop (i + 1)))) := by rw [rowsV_split hi, hx]; simp
  have hl2 : (rowsV enc (l.take i) ++ a).length = off := by rw [List.length_append, hl, ho]
  subst hn
  rw [e]
  refine takeC_of (by simp only [List.length_append] at hl2 ⊢; omega) ?_
  rw [← hl2, List.drop_left, List.take_left]
  exact hk
theorem putC_part (he : ∀ x, (enc x).length = s) {l : List A} {i : Nat} (hi : i < l.length) {a b b' c : List VV} {y : A} (hx : enc l[i] = a ++ (b ++ c)) (hy : enc y = a ++ (b' ++ c)) (hb : b'.length = b.length) {off : Nat} (ho : off = i * s + a.length)
    {K : List VV → Prop} (hk : K (rowsV enc (l.set i y))) : putC (rowsV enc l) off b' K := by
  have hl : (rowsV enc (l.take i)).length = i * s := by rw [rowsV_length he, List.length_take, Nat.min_eq_left (Nat.le_of_lt hi)]
  have e : rowsV enc l = (rowsV enc (l.take i) ++ a) ++ (b ++ (c ++ rowsV enc (l.drop (i + 1)))) := by rw [rowsV_split hi, hx]; simp
  have hi' : i < (l.set i y).length := by simpa using hi
  have e' : rowsV enc (l.set i y) = (rowsV enc (l.take i) ++ a) ++ b' ++ (c ++ rowsV enc (l.drop (i + 1))) := by
    rw [rowsV_split hi', List.getElem_set_self, hy, List.take_set_of_le (Nat.le_refl _), List.drop_set_of_lt (by omega)]; simp
  have hl2 : (rowsV enc (l.take i) ++ a).length = off := by rw [List.length_append, hl, ho]
  rw [e]
  refine putC_of (by simp only [List.length_append] at hl2 ⊢; omega) ?_
  rw [← hl2, List.take_left, ← List.drop_drop, List.drop_left, hb, List.drop_left, ← e']
  exact hk
end
end Go.VM
