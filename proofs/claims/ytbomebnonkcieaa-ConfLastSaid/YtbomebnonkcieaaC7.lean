import Derived.Test.YtbomebnonkcieaaC6
import Derived.Deep.AppendLies
namespace Go.Proofs.Ytbomebnonkcieaa
open Go.RowKit Go.Mem

/-- may both the one and the other be? -/
def tOk (n : Int) (l l' : List Int) : Bool := mayC n l && mayC (n+1) l'
theorem mayC_bd {n : Int} {l : List Int} (h : mayC n l = true) : 1 ≤ n ∧ n ≤ 1099511627776 := by
  have := of_decide_eq_true h
  exact ⟨this.1, this.2.1⟩

theorem may_is (n : Int) (v : Value) (l : List Int) (w : World) (h : SlI w v l) (b : Bool) (hb : mayC n l = b) :
    Calls Try.prog 8 #[.agg #[.int .i64 n, v]] w fun e w' => e = .returned (.bool b) ∧ New w w' := by
  subst hb; exact may_any n v l w h

theorem _root_.Go.RowKit.Below.step {B : Nat} {a w w' : World} (h : Below B a w) (k : New w w') (hB : B ≤ w.heap.size) : Below B a w' := h.trans (k.mono hB)

set_option maxHeartbeats 800000 in
theorem turned_yes (n : Int) (v v' : Value) (l l' : List Int) (w : World) (h : SlI w v l) (h' : SlI w v' l') (ok : tOk n l l' = true) :
    Calls Try.prog 27 #[.agg #[.int .i64 n, v], v'] w fun e w' => e = .returned (.tuple #[.agg #[.int .i64 (n+1), v'], .bool true]) ∧ New w w' := by
  obtain ⟨ao, cap, rfl⟩ := h.agg
  obtain ⟨ao', cap', rfl⟩ := h'.agg
  unfold tOk at ok
  rw [Bool.and_eq_true] at ok
  obtain ⟨m1, m2⟩ := ok
  have hbd := mayC_bd m1
  have H := Lib.hid h
  have H' := Lib.hid h'
  have M1 := Lib.hid m1
  have M2 := Lib.hid m2
  clear h h' m1 m2
  obtain ⟨hb1, hb2⟩ := hbd
  go_enter Try.func27, Try.ntmps27
  go_wp2_with fail
  refine (may_is n _ l _ ((H.out.alloc _).alloc _) true M1.out).mono ?_
  rintro e w1 ⟨rfl, hw1⟩
  obtain ⟨r1, r2⟩ := New.cells hw1
  have l0 : w.heap.size < w1.heap.size := by have := hw1.size; simp at this; omega
  have l1 : w.heap.size + 1 < w1.heap.size := by have := hw1.size; simp at this; omega
  have h1 := Lib.hid hw1
  clear hw1
  go_wp2_with fail
  refine (may_is (n+1) _ l' _ (((H'.out.alloc _).alloc _).new h1.out) true M2.out).mono ?_
  rintro e w2 ⟨rfl, hw2⟩
  obtain ⟨r3, r4⟩ := New.cells hw2
  have l2 : w.heap.size < w2.heap.size := by have := hw2.size; omega
  have l3 : w.heap.size + 1 < w2.heap.size := by have := hw2.size; omega
  have h2 := Lib.hid hw2
  clear hw2
  go_wp2_with fail
  refine bodyPost_ret (v := .tuple #[.agg #[.int .i64 (n+1), .slice ao' l'.length cap'], .bool true]) ?_ rfl ⟨rfl, ?_⟩
  · simp [results, Try.results27, go_sem, *]
  · exact ((((((Below.refl _ _).alloc (Nat.le_refl _) _).alloc (by simp) _).step h1.out (by simp; omega)).step h2.out (by omega)).setCell (by simp) _).setCell (by simp) _

set_option maxHeartbeats 800000 in
theorem turned_no (n : Int) (v v' : Value) (l l' : List Int) (w : World) (h : SlI w v l) (h' : SlI w v' l') (ok : tOk n l l' = false) :
    Calls Try.prog 27 #[.agg #[.int .i64 n, v], v'] w fun e w' => e = .returned (.tuple #[.agg #[.int .i64 0, .slice none 0 0], .bool false]) ∧ New w w' := by
  obtain ⟨ao, cap, rfl⟩ := h.agg
  obtain ⟨ao', cap', rfl⟩ := h'.agg
  have H := Lib.hid h
  have H' := Lib.hid h'
  clear h h'
  cases m1 : mayC n l
  · have M1 := Lib.hid m1
    clear m1 ok
    go_enter Try.func27, Try.ntmps27
    go_wp2_with fail
    refine (may_is n _ l _ ((H.out.alloc _).alloc _) false M1.out).mono ?_
    rintro e w1 ⟨rfl, hw1⟩
    obtain ⟨r1, r2⟩ := New.cells hw1
    have l0 : w.heap.size < w1.heap.size := by have := hw1.size; simp at this; omega
    have l1 : w.heap.size + 1 < w1.heap.size := by have := hw1.size; simp at this; omega
    have h1 := Lib.hid hw1
    clear hw1
    go_wp2_with fail
    refine bodyPost_ret (v := .tuple #[.agg #[.int .i64 0, .slice none 0 0], .bool false]) ?_ rfl ⟨rfl, ?_⟩
    · simp [results, Try.results27, go_sem, *]
    · exact (((((Below.refl _ _).alloc (Nat.le_refl _) _).alloc (by simp) _).step h1.out (by simp; omega)).setCell (by simp) _).setCell (by simp) _
  · have hbd := mayC_bd m1
    obtain ⟨hb1, hb2⟩ := hbd
    have m2 : mayC (n+1) l' = false := by unfold tOk at ok; rw [m1] at ok; simpa using ok
    have M1 := Lib.hid m1
    have M2 := Lib.hid m2
    clear m1 m2 ok
    go_enter Try.func27, Try.ntmps27
    go_wp2_with fail
    refine (may_is n _ l _ ((H.out.alloc _).alloc _) true M1.out).mono ?_
    rintro e w1 ⟨rfl, hw1⟩
    obtain ⟨r1, r2⟩ := New.cells hw1
    have l0 : w.heap.size < w1.heap.size := by have := hw1.size; simp at this; omega
    have l1 : w.heap.size + 1 < w1.heap.size := by have := hw1.size; simp at this; omega
    have h1 := Lib.hid hw1
    clear hw1
    go_wp2_with fail
    refine (may_is (n+1) _ l' _ (((H'.out.alloc _).alloc _).new h1.out) false M2.out).mono ?_
    rintro e w2 ⟨rfl, hw2⟩
    obtain ⟨r3, r4⟩ := New.cells hw2
    have l2 : w.heap.size < w2.heap.size := by have := hw2.size; omega
    have l3 : w.heap.size + 1 < w2.heap.size := by have := hw2.size; omega
    have h2 := Lib.hid hw2
    clear hw2
    go_wp2_with fail
    refine bodyPost_ret (v := .tuple #[.agg #[.int .i64 0, .slice none 0 0], .bool false]) ?_ rfl ⟨rfl, ?_⟩
    · simp [results, Try.results27, go_sem, *]
    · exact ((((((Below.refl _ _).alloc (Nat.le_refl _) _).alloc (by simp) _).step h1.out (by simp; omega)).step h2.out (by omega)).setCell (by simp) _).setCell (by simp) _

theorem Try.zero25 (w : World) : (zeroValue 25).run Try.prog w = .ok (.agg #[.int .i64 0, .slice none 0 0]) w := by kernel_rfl

/-- what With, Without tell -/
def confV (n : Int) (v : Value) (b : Bool) : Value := .tuple #[.agg #[.int .i64 (if b then n + 1 else 0), if b then v else .slice none 0 0], .bool b]

end Go.Proofs.Ytbomebnonkcieaa
