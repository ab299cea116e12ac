import Derived.Test.YtbomebnonkcieaaC12
namespace Go.Proofs.Ytbomebnonkcieaa
open Go.RowKit Go.Mem Go.Draw

theorem with_is (n : Int) (v : Value) (l : List Int) (x : Int) (w : World) (h : SlI w v l) (l' : List Int) (hl' : l ++ [x] = l') (hl : l.length ≤ 1000000) (k : Nat) (hk : l'.length = k) (ok : tOk n l l' = true) :
    Calls Try.prog 16 #[.agg #[.int .i64 n, v], .int .i64 x] w fun e w' => ∃ ao cap, e = .returned (.tuple #[.agg #[.int .i64 (n + 1), .slice ao k cap], .bool true]) ∧ Hid (SlI w' (.slice ao k cap) l') ∧ New w w' := by
  subst hl'
  subst hk
  refine (with_any n v l x w h hl).mono ?_
  rintro e w' ⟨m, u, rfl, rfl, hs, hn⟩
  rw [ok] at hs ⊢
  obtain ⟨ao, cap, rfl⟩ := hs.agg
  exact ⟨ao, cap, rfl, hs, hn⟩
theorem without_is (n : Int) (v : Value) (l : List Int) (x : Int) (w : World) (h : SlI w v l) (l' : List Int) (hl' : rmI l x = l') (hl : l.length ≤ 1000000) (k : Nat) (hk : l'.length = k) (ok : rmOk n l x = true) :
    Calls Try.prog 18 #[.agg #[.int .i64 n, v], .int .i64 x] w fun e w' => ∃ ao cap, e = .returned (.tuple #[.agg #[.int .i64 (n + 1), .slice ao k cap], .bool true]) ∧ Hid (SlI w' (.slice ao k cap) l') ∧ New w w' := by
  subst hl'
  subst hk
  refine (without_any n v l x w h hl).mono ?_
  rintro e w' ⟨m, u, rfl, rfl, hs, hn⟩
  rw [ok] at hs ⊢
  obtain ⟨ao, cap, rfl⟩ := hs.agg
  exact ⟨ao, cap, rfl, hs, hn⟩
theorem without_not (n : Int) (v : Value) (l : List Int) (x : Int) (w : World) (h : SlI w v l) (hl : l.length ≤ 1000000) (ok : rmOk n l x = false) :
    Calls Try.prog 18 #[.agg #[.int .i64 n, v], .int .i64 x] w fun e w' => ∃ ao cap, e = .returned (.tuple #[.agg #[.int .i64 0, .slice ao 0 cap], .bool false]) ∧ Hid (SlI w' (.slice ao 0 cap) []) ∧ New w w' := by
  refine (without_any n v l x w h hl).mono ?_
  rintro e w' ⟨m, u, rfl, rfl, hs, hn⟩
  rw [ok] at hs ⊢
  obtain ⟨ao, cap, rfl⟩ := hs.agg
  exact ⟨ao, cap, rfl, hs, hn⟩

theorem has_is (n : Int) (v : Value) (l : List Int) (x : Int) (w : World) (h : SlI w v l) (b : Bool) (hb : hasI l x = b) :
    Calls Try.prog 10 #[.agg #[.int .i64 n, v], .int .i64 x] w fun e w' => e = .returned (.bool b) ∧ New w w' := by subst hb; exact has_any n v l x w h
theorem head_is (n : Int) (v : Value) (l : List Int) (w : World) (h : SlI w v l) (r : Int) (hr : getI l 0 = r) :
    Calls Try.prog 12 #[.agg #[.int .i64 n, v]] w fun e w' => e = .returned (.int .i64 r) ∧ New w w' := by subst hr; exact head_any n v l w h
theorem tail_is (n : Int) (v : Value) (l : List Int) (w : World) (h : SlI w v l) (r : Int) (hr : getI l (l.length - 1) = r) :
    Calls Try.prog 14 #[.agg #[.int .i64 n, v]] w fun e w' => e = .returned (.int .i64 r) ∧ New w w' := by subst hr; exact tail_any n v l w h
theorem next_is (n : Int) (v : Value) (l : List Int) (x : Int) (w : World) (h : SlI w v l) (r : Int) (hr : sideC l x 1 = r) :
    Calls Try.prog 21 #[.agg #[.int .i64 n, v], .int .i64 x] w fun e w' => e = .returned (.int .i64 r) ∧ New w w' := by subst hr; exact next_any n v l x w h
theorem prev_is (n : Int) (v : Value) (l : List Int) (x : Int) (w : World) (h : SlI w v l) (r : Int) (hr : sideC l x (-1) = r) :
    Calls Try.prog 23 #[.agg #[.int .i64 n, v], .int .i64 x] w fun e w' => e = .returned (.int .i64 r) ∧ New w w' := by subst hr; exact prev_any n v l x w h

theorem _root_.Go.Draw.Held.two {L : List (Nat × Obj)} {w : World} {b : Nat} {x y : Value} {T : TypeId} (h : Hid (Held L w)) (hm : (b, Obj.cells #[x, y] T (0, 0)) ∈ L) :
    w.cell? ⟨b, 0, none⟩ = some x ∧ w.cell? ⟨b, 1, none⟩ = some y := ⟨cell_of_row _ _ 0 _ _ _ (h.out _ hm), cell_of_row _ _ 1 _ _ _ (h.out _ hm)⟩

set_option maxHeartbeats 800000 in
theorem begun_yes (w : World) : Calls Try.prog 7 #[] w fun e w' => e = .returned (.bool true) ∧ New w w' := by
  go_enter Try.func7, Try.ntmps7
  go_wp2_with fail
  obtain ⟨W, hW⟩ : ∃ W, W = (w.alloc (.cells #[.int .i64 2, .int .i64 4] 3)).alloc (.cells #[.int .i64 1, .slice (some ⟨w.heap.size, 0, none⟩) 2 2] 25) := ⟨_, rfl⟩
  have HC : Hid (SlI W (.slice (some ⟨w.heap.size, 0, none⟩) 2 2) [2, 4]) := by subst hW; exact (Sl.of_block (heap_alloc_new _ _) rfl (by decide)).alloc _
  have hHL : Held [(w.heap.size + 1, .cells #[.int .i64 1, .slice (some ⟨w.heap.size, 0, none⟩) 2 2] 25)] W := by subst hW; simpa using (Held.nil _).alloc (w := w.alloc _) _
  have HB : Hid (Below w.heap.size w W) := by subst hW; exact ((Below.refl _ _).alloc (Nat.le_refl _) _).alloc (by simp) _
  have HL := Lib.hid hHL
  rw [← hW]
  have lw : w.heap.size + 1 < W.heap.size := by subst hW; simp
  clear hW hHL
  refine (with_is 1 _ [2, 4] 1 _ HC.out [2, 4, 1] rfl (by decide) 3 rfl (by decide)).mono ?_
  rintro e w1 ⟨ao1, cap1, rfl, HD, hn1⟩
  have HC := Lib.hid (HC.out.new hn1)
  have HL := Lib.hid (HL.out.new hn1)
  have HB := Lib.hid (HB.out.step hn1 (by omega))
  obtain ⟨c0, c1⟩ := Held.two HL (List.mem_cons_self)
  have lc := (HL.out.lt List.mem_cons_self)
  dsimp only at lc
  clear hn1 lw
  go_wp2_with fail
  refine (without_is 1 _ [2, 4] 2 _ (HC.out.alloc _) [4] (by decide) (by decide) 1 rfl (by decide)).mono ?_
  rintro e w2 ⟨ao2, cap2, rfl, HE, hn2⟩
  have HC := Lib.hid ((HC.out.alloc _).new hn2)
  have HD := Lib.hid ((HD.out.alloc _).new hn2)
  have HL := Lib.hid ((HL.out.alloc _).new hn2)
  have HB := Lib.hid ((HB.out.alloc (by omega) _).step hn2 (by simp; omega))
  obtain ⟨d0, d1⟩ := Held.two HL List.mem_cons_self
  have ld := HL.out.lt List.mem_cons_self
  dsimp only at ld
  clear c0 c1 lc
  obtain ⟨c0, c1⟩ := Held.two HL (List.mem_cons_of_mem _ List.mem_cons_self)
  have lc := HL.out.lt (List.mem_cons_of_mem _ List.mem_cons_self)
  dsimp only at lc
  clear hn2
  go_wp2_with fail
  refine (without_not 2 _ [4] 4 _ (HE.out.alloc _) (by decide) (by decide)).mono ?_
  rintro e w3 ⟨ao3, cap3, rfl, HF, hn3⟩
  have HC := Lib.hid ((HC.out.alloc _).new hn3)
  have HD := Lib.hid ((HD.out.alloc _).new hn3)
  have HE := Lib.hid ((HE.out.alloc _).new hn3)
  have HL := Lib.hid ((HL.out.alloc _).new hn3)
  have HB := Lib.hid ((HB.out.alloc (by omega) _).step hn3 (by simp; omega))
  obtain ⟨e0, e1⟩ := Held.two HL List.mem_cons_self
  have le := HL.out.lt List.mem_cons_self
  dsimp only at le
  clear d0 d1 ld
  obtain ⟨d0, d1⟩ := Held.two HL (List.mem_cons_of_mem _ List.mem_cons_self)
  have ld := HL.out.lt (List.mem_cons_of_mem _ List.mem_cons_self)
  dsimp only at ld
  clear c0 c1 lc
  obtain ⟨c0, c1⟩ := Held.two HL (List.mem_cons_of_mem _ (List.mem_cons_of_mem _ List.mem_cons_self))
  have lc := HL.out.lt (List.mem_cons_of_mem _ (List.mem_cons_of_mem _ List.mem_cons_self))
  dsimp only at lc
  clear hn3
  go_wp2_with fail
  refine (may_is 1 _ [2, 4] _ (HC.out.alloc _) true (by decide)).mono ?_
  rintro e w4 ⟨rfl, hn4⟩
  have HC := Lib.hid ((HC.out.alloc _).new hn4)
  have HE := Lib.hid ((HE.out.alloc _).new hn4)
  have HL := Lib.hid ((HL.out.alloc _).new hn4)
  have HB := Lib.hid ((HB.out.alloc (by omega) _).step hn4 (by simp; omega))
  clear c0 c1 lc
  obtain ⟨c0, c1⟩ := Held.two HL (List.mem_cons_of_mem _ (List.mem_cons_of_mem _ (List.mem_cons_of_mem _ List.mem_cons_self)))
  have lc := HL.out.lt (List.mem_cons_of_mem _ (List.mem_cons_of_mem _ (List.mem_cons_of_mem _ List.mem_cons_self)))
  dsimp only at lc
  clear d0 d1 ld
  obtain ⟨d0, d1⟩ := Held.two HL (List.mem_cons_of_mem _ (List.mem_cons_of_mem _ List.mem_cons_self))
  have ld := HL.out.lt (List.mem_cons_of_mem _ (List.mem_cons_of_mem _ List.mem_cons_self))
  dsimp only at ld
  clear e0 e1 le
  obtain ⟨e0, e1⟩ := Held.two HL (List.mem_cons_of_mem _ List.mem_cons_self)
  have le := HL.out.lt (List.mem_cons_of_mem _ List.mem_cons_self)
  dsimp only at le
  clear hn4
  go_wp2_with fail
  refine (may_is 0 _ [] _ (Sl.nil _) false (by decide)).mono ?_
  rintro e w5 ⟨rfl, hn5⟩
  have HC := Lib.hid (HC.out.new hn5)
  have HE := Lib.hid (HE.out.new hn5)
  have HL := Lib.hid (HL.out.new hn5)
  have HB := Lib.hid (HB.out.step hn5 (by omega))
  clear c0 c1 lc
  obtain ⟨c0, c1⟩ := Held.two HL (List.mem_cons_of_mem _ (List.mem_cons_of_mem _ (List.mem_cons_of_mem _ List.mem_cons_self)))
  have lc := HL.out.lt (List.mem_cons_of_mem _ (List.mem_cons_of_mem _ (List.mem_cons_of_mem _ List.mem_cons_self)))
  dsimp only at lc
  clear d0 d1 ld
  obtain ⟨d0, d1⟩ := Held.two HL (List.mem_cons_of_mem _ (List.mem_cons_of_mem _ List.mem_cons_self))
  have ld := HL.out.lt (List.mem_cons_of_mem _ (List.mem_cons_of_mem _ List.mem_cons_self))
  dsimp only at ld
  clear e0 e1 le
  obtain ⟨e0, e1⟩ := Held.two HL (List.mem_cons_of_mem _ List.mem_cons_self)
  have le := HL.out.lt (List.mem_cons_of_mem _ List.mem_cons_self)
  dsimp only at le
  clear hn5
  go_wp2_with fail
  refine (has_is 1 _ [2, 4] 4 _ HC.out true (by decide)).mono ?_
  rintro e w6 ⟨rfl, hn6⟩
  have HC := Lib.hid (HC.out.new hn6)
  have HE := Lib.hid (HE.out.new hn6)
  have HL := Lib.hid (HL.out.new hn6)
  have HB := Lib.hid (HB.out.step hn6 (by omega))
  clear c0 c1 lc
  obtain ⟨c0, c1⟩ := Held.two HL (List.mem_cons_of_mem _ (List.mem_cons_of_mem _ (List.mem_cons_of_mem _ List.mem_cons_self)))
  have lc := HL.out.lt (List.mem_cons_of_mem _ (List.mem_cons_of_mem _ (List.mem_cons_of_mem _ List.mem_cons_self)))
  dsimp only at lc
  clear d0 d1 ld
  obtain ⟨d0, d1⟩ := Held.two HL (List.mem_cons_of_mem _ (List.mem_cons_of_mem _ List.mem_cons_self))
  have ld := HL.out.lt (List.mem_cons_of_mem _ (List.mem_cons_of_mem _ List.mem_cons_self))
  dsimp only at ld
  clear e0 e1 le
  obtain ⟨e0, e1⟩ := Held.two HL (List.mem_cons_of_mem _ List.mem_cons_self)
  have le := HL.out.lt (List.mem_cons_of_mem _ List.mem_cons_self)
  dsimp only at le
  clear hn6
  go_wp2_with fail
  refine (has_is 1 _ [2, 4] 1 _ HC.out false (by decide)).mono ?_
  rintro e w7 ⟨rfl, hn7⟩
  have HC := Lib.hid (HC.out.new hn7)
  have HE := Lib.hid (HE.out.new hn7)
  have HL := Lib.hid (HL.out.new hn7)
  have HB := Lib.hid (HB.out.step hn7 (by omega))
  clear c0 c1 lc
  obtain ⟨c0, c1⟩ := Held.two HL (List.mem_cons_of_mem _ (List.mem_cons_of_mem _ (List.mem_cons_of_mem _ List.mem_cons_self)))
  have lc := HL.out.lt (List.mem_cons_of_mem _ (List.mem_cons_of_mem _ (List.mem_cons_of_mem _ List.mem_cons_self)))
  dsimp only at lc
  clear d0 d1 ld
  obtain ⟨d0, d1⟩ := Held.two HL (List.mem_cons_of_mem _ (List.mem_cons_of_mem _ List.mem_cons_self))
  have ld := HL.out.lt (List.mem_cons_of_mem _ (List.mem_cons_of_mem _ List.mem_cons_self))
  dsimp only at ld
  clear e0 e1 le
  obtain ⟨e0, e1⟩ := Held.two HL (List.mem_cons_of_mem _ List.mem_cons_self)
  have le := HL.out.lt (List.mem_cons_of_mem _ List.mem_cons_self)
  dsimp only at le
  clear hn7
  go_wp2_with fail
  refine (head_is 1 _ [2, 4] _ HC.out 2 (by decide)).mono ?_
  rintro e w8 ⟨rfl, hn8⟩
  have HC := Lib.hid (HC.out.new hn8)
  have HE := Lib.hid (HE.out.new hn8)
  have HL := Lib.hid (HL.out.new hn8)
  have HB := Lib.hid (HB.out.step hn8 (by omega))
  clear c0 c1 lc
  obtain ⟨c0, c1⟩ := Held.two HL (List.mem_cons_of_mem _ (List.mem_cons_of_mem _ (List.mem_cons_of_mem _ List.mem_cons_self)))
  have lc := HL.out.lt (List.mem_cons_of_mem _ (List.mem_cons_of_mem _ (List.mem_cons_of_mem _ List.mem_cons_self)))
  dsimp only at lc
  clear d0 d1 ld
  obtain ⟨d0, d1⟩ := Held.two HL (List.mem_cons_of_mem _ (List.mem_cons_of_mem _ List.mem_cons_self))
  have ld := HL.out.lt (List.mem_cons_of_mem _ (List.mem_cons_of_mem _ List.mem_cons_self))
  dsimp only at ld
  clear e0 e1 le
  obtain ⟨e0, e1⟩ := Held.two HL (List.mem_cons_of_mem _ List.mem_cons_self)
  have le := HL.out.lt (List.mem_cons_of_mem _ List.mem_cons_self)
  dsimp only at le
  clear hn8
  go_wp2_with fail
  refine (tail_is 1 _ [2, 4] _ HC.out 4 (by decide)).mono ?_
  rintro e w9 ⟨rfl, hn9⟩
  have HC := Lib.hid (HC.out.new hn9)
  have HE := Lib.hid (HE.out.new hn9)
  have HL := Lib.hid (HL.out.new hn9)
  have HB := Lib.hid (HB.out.step hn9 (by omega))
  clear c0 c1 lc
  obtain ⟨c0, c1⟩ := Held.two HL (List.mem_cons_of_mem _ (List.mem_cons_of_mem _ (List.mem_cons_of_mem _ List.mem_cons_self)))
  have lc := HL.out.lt (List.mem_cons_of_mem _ (List.mem_cons_of_mem _ (List.mem_cons_of_mem _ List.mem_cons_self)))
  dsimp only at lc
  clear d0 d1 ld
  obtain ⟨d0, d1⟩ := Held.two HL (List.mem_cons_of_mem _ (List.mem_cons_of_mem _ List.mem_cons_self))
  have ld := HL.out.lt (List.mem_cons_of_mem _ (List.mem_cons_of_mem _ List.mem_cons_self))
  dsimp only at ld
  clear e0 e1 le
  obtain ⟨e0, e1⟩ := Held.two HL (List.mem_cons_of_mem _ List.mem_cons_self)
  have le := HL.out.lt (List.mem_cons_of_mem _ List.mem_cons_self)
  dsimp only at le
  clear hn9
  go_wp2_with fail
  refine (next_is 1 _ [2, 4] 2 _ HC.out 4 (by decide)).mono ?_
  rintro e w10 ⟨rfl, hn10⟩
  have HC := Lib.hid (HC.out.new hn10)
  have HE := Lib.hid (HE.out.new hn10)
  have HL := Lib.hid (HL.out.new hn10)
  have HB := Lib.hid (HB.out.step hn10 (by omega))
  clear c0 c1 lc
  obtain ⟨c0, c1⟩ := Held.two HL (List.mem_cons_of_mem _ (List.mem_cons_of_mem _ (List.mem_cons_of_mem _ List.mem_cons_self)))
  have lc := HL.out.lt (List.mem_cons_of_mem _ (List.mem_cons_of_mem _ (List.mem_cons_of_mem _ List.mem_cons_self)))
  dsimp only at lc
  clear d0 d1 ld
  obtain ⟨d0, d1⟩ := Held.two HL (List.mem_cons_of_mem _ (List.mem_cons_of_mem _ List.mem_cons_self))
  have ld := HL.out.lt (List.mem_cons_of_mem _ (List.mem_cons_of_mem _ List.mem_cons_self))
  dsimp only at ld
  clear e0 e1 le
  obtain ⟨e0, e1⟩ := Held.two HL (List.mem_cons_of_mem _ List.mem_cons_self)
  have le := HL.out.lt (List.mem_cons_of_mem _ List.mem_cons_self)
  dsimp only at le
  clear hn10
  go_wp2_with fail
  refine (prev_is 1 _ [2, 4] 2 _ HC.out 0 (by decide)).mono ?_
  rintro e w11 ⟨rfl, hn11⟩
  have HC := Lib.hid (HC.out.new hn11)
  have HE := Lib.hid (HE.out.new hn11)
  have HL := Lib.hid (HL.out.new hn11)
  have HB := Lib.hid (HB.out.step hn11 (by omega))
  clear c0 c1 lc
  obtain ⟨c0, c1⟩ := Held.two HL (List.mem_cons_of_mem _ (List.mem_cons_of_mem _ (List.mem_cons_of_mem _ List.mem_cons_self)))
  have lc := HL.out.lt (List.mem_cons_of_mem _ (List.mem_cons_of_mem _ (List.mem_cons_of_mem _ List.mem_cons_self)))
  dsimp only at lc
  clear d0 d1 ld
  obtain ⟨d0, d1⟩ := Held.two HL (List.mem_cons_of_mem _ (List.mem_cons_of_mem _ List.mem_cons_self))
  have ld := HL.out.lt (List.mem_cons_of_mem _ (List.mem_cons_of_mem _ List.mem_cons_self))
  dsimp only at ld
  clear e0 e1 le
  obtain ⟨e0, e1⟩ := Held.two HL (List.mem_cons_of_mem _ List.mem_cons_self)
  have le := HL.out.lt (List.mem_cons_of_mem _ List.mem_cons_self)
  dsimp only at le
  clear hn11
  obtain ⟨_, _, he, _, _, _, hx⟩ := HE.out.open
  cases he
  obtain ⟨b, o, y, rfl, hck, hy⟩ := hx.out 0 (by simp)
  have hy : y = 4 := by simpa using hy.out.symm
  subst hy
  rw [Nat.add_zero] at hck
  clear hx
  go_wp2_with fail
  go_ret
  exact ⟨rfl, HB.out⟩
end Go.Proofs.Ytbomebnonkcieaa
