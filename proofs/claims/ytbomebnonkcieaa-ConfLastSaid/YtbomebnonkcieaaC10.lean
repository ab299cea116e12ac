import Derived.Test.YtbomebnonkcieaaC9
import Derived.Test.YtbomebnonkcieaaD4
namespace Go.Proofs.Ytbomebnonkcieaa
open Go.RowKit Go.Mem Go.Draw

theorem mayConf_is (n : Int) (v : Value) (l : List Int) (w : World) (h : SlI w v l) (b : Bool) (hb : mayC n l = b) :
    Calls Try.prog 9 #[.agg #[.int .i64 n, v]] w fun e w' => e = .returned (.bool b) ∧ New w w' := by
  subst hb; exact mayConf_any n v l w h

set_option maxHeartbeats 800000 in
theorem refWith_any (n : Int) (v : Value) (l : List Int) (x : Int) (w : World) (h : SlI w v l) (hl : l.length ≤ 1000000) (hn : -9223372036854775808 ≤ n ∧ n < 9223372036854775807) :
    Calls Try.prog 17 #[.agg #[.int .i64 n, v], .int .i64 x] w (ConfR w (tOk n l (l ++ [x])) n (l ++ [x])) := by
  obtain ⟨i0, hi0, hz0, hz1, hz2⟩ := info_parts Try.info3
  obtain ⟨ao, cap, rfl⟩ := h.agg
  have H := Lib.hid h
  have hw0 : IntKind.i64.wrap (n + 1) = n + 1 := by rw [IntKind.wrap_i64]; omega
  clear h
  go_enter Try.func17, Try.ntmps17
  go_wp2_with fail
  obtain ⟨W, hW⟩ : ∃ W, W = (w.alloc (.cells #[.int .i64 n, .slice ao l.length cap] 25)).alloc (.cells #[.int .i64 0, .slice none 0 0] 25) := ⟨_, rfl⟩
  have a0 : W.cell? ⟨w.heap.size, 0, none⟩ = some (.int .i64 n) := by subst hW; simp [go_sem]
  have a1 : W.cell? ⟨w.heap.size, 1, none⟩ = some (.slice ao l.length cap) := by subst hW; simp [go_sem]
  have HW : Hid (SlI W (.slice ao l.length cap) l) := by subst hW; exact (H.out.alloc _).alloc _
  have HN : Hid (New w W) := by subst hW; exact ((Below.refl _ _).alloc (Nat.le_refl _) _).alloc (by simp) _
  have hz : w.heap.size + 2 ≤ W.heap.size := by subst hW; simp
  have l0 : w.heap.size < w.heap.size + 2 := by omega
  have HR : Hid (W.heap[w.heap.size + 1]? = some (.cells #[.int .i64 0, .slice none 0 0] 25 (0, 0))) := by subst hW; exact heap_alloc2_new _ _ _
  rw [← hW]
  clear hW
  have hk1 : Keep (w.heap.size + 2) [] W W.drew := (Keep.refl hz (by simp)).drew
  rename_i KR aR
  have key : ∀ (d : Nat) (ao5 : Option Addr) (cap5 : Nat) (t3 t7 t8 t9 t10 t11 t12 t13 t14 t15 t16 : Value) (wF : World), Hid (wF.heap[d]? = some (.cells #[.int .i64 (n+1), .slice ao5 (l.length+1) cap5] 25 (0, 0))) →
      Hid (Keep (w.heap.size + 2) [] W wF) → Hid (wF.ownsRow (w.heap.size + 2) 3 1 (.slice ao5 (l.length+1) cap5) (l.length + 1) ((l ++ [x]).map (Value.int .i64))) → Hid (w.heap.size + 2 ≤ d) → Hid (Below w.heap.size w wF) →
      KR { tmps := #[.agg #[.int .i64 n, .slice ao l.length cap], .int .i64 x, .pointer (some ⟨w.heap.size, 0, none⟩), t3, .pointer (some ⟨w.heap.size + 1, 0, none⟩), .bool false, .pointer (some ⟨d, 0, none⟩), t7, t8, t9, t10, t11, t12, t13, t14, t15, t16,
        undef, undef, undef, undef, undef, undef, undef, undef, undef, undef], defers := [] } wF := by
    intro d ao5 cap5 t3 t7 t8 t9 t10 t11 t12 t13 t14 t15 t16 wF F1 F2 F3 F4 HwF
    have c0 : wF.cell? ⟨w.heap.size, 0, none⟩ = some (.int .i64 n) := (F2.out.cell (by omega) (by simp)).trans a0
    have c1 : wF.cell? ⟨w.heap.size, 1, none⟩ = some (.slice ao l.length cap) := (F2.out.cell (by omega) (by simp)).trans a1
    have hr := (F2.out.b (w.heap.size + 1) (by omega) (by simp)).trans HR.out
    have r0 : wF.cell? ⟨w.heap.size + 1, 0, none⟩ = some (.int .i64 0) := cell_of_row _ _ _ _ _ _ hr
    have r1 : wF.cell? ⟨w.heap.size + 1, 1, none⟩ = some (.slice none 0 0) := cell_of_row _ _ _ _ _ _ hr
    have r2 : ∀ o, wF.frozen? ⟨w.heap.size + 1, o, none⟩ = false := fun o => by simp [World.frozen?, hr]
    have d0 : wF.cell? ⟨d, 0, none⟩ = some (.int .i64 (n+1)) := cell_of_row _ _ _ _ _ _ F1.out
    have d1 : wF.cell? ⟨d, 1, none⟩ = some (.slice ao5 (l.length+1) cap5) := cell_of_row _ _ _ _ _ _ F1.out
    have ls : w.heap.size < wF.heap.size := by have := F2.out.a; omega
    have ls1 : w.heap.size + 1 < wF.heap.size := by have := F2.out.a; omega
    have ld : d < wF.heap.size := (Array.getElem?_eq_some_iff.1 F1.out).1
    clear hr
    refine aR _ _ ?_
    clear aR KR
    have hb0 : Below w.heap.size w w := Below.refl _ _
    have HF : Hid (SlI wF (.slice ao l.length cap) l) := H.out.same (F2.out.old HN.out (by omega) (by simp))
    have HF2 : Hid (SlI wF (.slice ao5 (l.length+1) cap5) (l ++ [x])) := SlI.of_owns F3.out rfl (by simp; omega)
    cases m1 : mayC n l
    · have M1 := Lib.hid m1
      have ok : tOk n l (l ++ [x]) = false := by simp [tOk, m1]
      rw [ok]
      clear m1 ok
      go_wp2_with fail
      refine (mayConf_is n _ l _ HF.out false M1.out).mono ?_
      rintro e w1 ⟨rfl, hw1⟩
      obtain ⟨q1, q2⟩ := New.cells hw1
      have HW1 := Lib.hid hw1
      clear hw1
      go_wp2_with fail
      refine bodyPost_ret (v := .tuple #[.agg #[.int .i64 0, .slice none 0 0], .bool false]) (by simp [results, Try.results17, go_sem, *]) rfl ⟨_, _, rfl, rfl, Sl.nil _, ?_⟩
      exact ((HwF.out.step HW1.out (by omega)).setCell (by simp) _).setCell (by simp) _
    · have M1 := Lib.hid m1
      cases m2 : mayC (n+1) (l ++ [x])
      · have M2 := Lib.hid m2
        have ok : tOk n l (l ++ [x]) = false := by simp [tOk, m2]
        rw [ok]
        clear m1 m2 ok
        go_wp2_with fail
        refine (mayConf_is n _ l _ HF.out true M1.out).mono ?_
        rintro e w1 ⟨rfl, hw1⟩
        obtain ⟨q1, q2⟩ := New.cells hw1
        have HW1 := Lib.hid hw1
        have HF3 : Hid (SlI w1 (.slice ao5 (l.length+1) cap5) (l ++ [x])) := HF2.out.new hw1
        have g1 := hw1.size
        clear hw1
        go_wp2_with fail
        refine (mayConf_is (n+1) _ (l ++ [x]) _ HF3.out false M2.out).mono ?_
        rintro e w2 ⟨rfl, hw2⟩
        obtain ⟨q3, q4⟩ := New.cells hw2
        have ls2 : w.heap.size + 1 < w1.heap.size := by omega
        have ls3 : d < w1.heap.size := by omega
        have HW2 := Lib.hid hw2
        clear hw2
        go_wp2_with fail
        refine bodyPost_ret (v := .tuple #[.agg #[.int .i64 0, .slice none 0 0], .bool false]) (by simp [results, Try.results17, go_sem, *]) rfl ⟨_, _, rfl, rfl, Sl.nil _, ?_⟩
        exact (((HwF.out.step HW1.out (by omega)).step HW2.out (by omega)).setCell (by simp) _).setCell (by simp) _
      · have M2 := Lib.hid m2
        have ok : tOk n l (l ++ [x]) = true := by simp [tOk, m1, m2]
        rw [ok]
        clear m1 m2 ok
        go_wp2_with fail
        refine (mayConf_is n _ l _ HF.out true M1.out).mono ?_
        rintro e w1 ⟨rfl, hw1⟩
        obtain ⟨q1, q2⟩ := New.cells hw1
        have HW1 := Lib.hid hw1
        have HF3 : Hid (SlI w1 (.slice ao5 (l.length+1) cap5) (l ++ [x])) := HF2.out.new hw1
        have g1 := hw1.size
        clear hw1
        go_wp2_with fail
        refine (mayConf_is (n+1) _ (l ++ [x]) _ HF3.out true M2.out).mono ?_
        rintro e w2 ⟨rfl, hw2⟩
        obtain ⟨q3, q4⟩ := New.cells hw2
        have ls2 : w.heap.size + 1 < w1.heap.size := by omega
        have ls3 : d < w1.heap.size := by omega
        have HW2 := Lib.hid hw2
        clear hw2
        go_wp2_with fail
        refine bodyPost_ret (v := .tuple #[.agg #[.int .i64 (n+1), .slice ao5 (l.length+1) cap5], .bool true]) (by simp [results, Try.results17, go_sem, *]) rfl ⟨_, _, rfl, rfl, ?_, ?_⟩
        · refine SlI.of_owns (ownsRow_setCell_below (ownsRow_setCell_below (owns_new (owns_new F3.out HW1.out) HW2.out) ?_ _) ?_ _) rfl (by simp; omega)
          · show w.heap.size + 1 < w.heap.size + 2; omega
          · show w.heap.size + 1 < w.heap.size + 2; omega
        · exact (((HwF.out.step HW1.out (by omega)).step HW2.out (by omega)).setCell (by simp) _).setCell (by simp) _
  clear aR
  have KEY := Lib.hid key
  clear key
  have HL : Hid (Held [] W.drew) := Held.nil _
  have HB : Hid (Below w.heap.size w W.drew) := HN.out.drew
  refine wp_plan (.take 0 (.take 1 (.take 2 (.take 3 (.take 4 (.take 6 (.eff3 5 7 10 (.eff2 7 10 (.eff2 8 10 (.take 9 (.eff 10 (.eff 11 (.done)))) (.eff 8 (.take 9 (.eff 11 (.done))))) (.eff 7 (.eff 8 (.take 9 (.eff 11 (.done)))))) (.eff2 5 10 (.eff2 8 10 (.take 9 (.eff 10 (.eff 11 (.done)))) (.eff 8 (.take 9 (.eff 11 (.done))))) (.eff 5 (.eff 8 (.take 9 (.eff 11 (.done)))))) (.eff2 5 7 (.eff 7 (.eff 8 (.take 9 (.eff 11 (.done))))) (.eff 5 (.eff 8 (.take 9 (.eff 11 (.done))))))))))))) (Keep (w.heap.size + 2) [] W) (by kernel_rfl) (by kernel_rfl) hk1 ?_
  go_wp2_with (first
    | (refine take_silent rfl rfl rfl (fun K hK => ?_); conv => arg 2; whnf)
    | (refine take_fieldAddr rfl rfl (by kernel_rfl) rfl (fun K hK => ?_); conv => arg 2; whnf)
    | (refine take_load' rfl rfl rfl rfl (by assumption) l0 (by simp) (by first | exact a0 | exact a1) (fun K hK => ?_); conv => arg 2; whnf)
    | (refine take_int rfl rfl rfl rfl rfl (fun K hK => ?_); conv => arg 2; whnf)
    | (refine take_build rfl rfl rfl (fun K hK => ?_); conv => arg 2; whnf)
    | (refine eff_three ?_ ?_ ?_)
    | (refine eff_two ?_ ?_)
    | (refine eff_append_sl (i := 5) rfl rfl (.const (.slice none 0 0)) (.tmp 11) 22 rfl _ 3 i0 (.int .i64 0) 1 8 Try.underlying22 hi0 hz0 hz1 hz2 rfl (by decide) (.slice none 0 0) 0 [] rfl (World.ownsRow_nil _ _ _ _)
        (.slice ao l.length cap) l.length (l.map (Value.int .i64)) rfl (H.out.same (Keep.old (by assumption) HN.out (by omega) (by simp))) (by simp) (by simp [Value.oneCell']) (by unfold maxLen; omega) (by omega) (Nat.le_refl _) (by assumption) (Keep.le (by assumption) (by omega))
        l.length (Nat.zero_add _) (l.map (Value.int .i64)) rfl ?_
       intro ao1 cap1 w1 HO1 HG1 _ hk
       have HN1 := Lib.hid (New.of_grown HG1.out)
       have HA := Lib.hid (Apart.start HL.out HO1.out (Nat.le_refl _))
       have HB := Lib.hid (HB.out.step HN1.out (by have := HB.out.size; omega))
       have HL := Lib.hid (HL.out.new HN1.out)
       have HO := Lib.hid (owns_le HO1.out (show w.heap.size + 2 ≤ _ from Keep.le (by assumption) (by omega)))
       clear HG1 HN1 HO1)
    | (refine eff_make1 (i := 7) rfl rfl 22 3 (.tmp 13) rfl i0 (.int .i64 0) Try.underlying22 hi0 hz0 hz1 rfl (.int .i64 x) rfl rfl (by assumption) HL ?_
       intro b w1 hd1 _ HL HN1 hk
       try (have HA := Lib.hid (Apart.cons (o := .cells #[.int .i64 x] 3) HA.out HO.out hd1.out))
       try (have HO := Lib.hid (owns_new HO.out HN1.out))
       have HB := Lib.hid (HB.out.step HN1.out (by have := HB.out.size; omega))
       clear HN1 hd1)
    | (refine eff_alloc (i := 10) rfl rfl 25 rfl (.agg #[.int .i64 0, .slice none 0 0]) Try.zero25 (by assumption) HL ?_
       intro d w1 hd1 hdl HL HN1 hk
       try (have HA := Lib.hid (Apart.cons (o := .cells #[.int .i64 0, .slice none 0 0] 25) HA.out HO.out hd1.out))
       try (have HO := Lib.hid (owns_new HO.out HN1.out))
       try (have HA2 := Lib.hid (Apart.cons (o := .cells #[.int .i64 0, .slice none 0 0] 25) HA2.out HO2.out hd1.out))
       try (have HO2 := Lib.hid (owns_new HO2.out HN1.out))
       have HB := Lib.hid (HB.out.step HN1.out (by have := HB.out.size; omega))
       clear HN1 hd1)
    | (refine eff_append_sl (i := 8) rfl rfl (.tmp 12) (.tmp 14) 22 rfl (w.heap.size + 2) 3 i0 (.int .i64 0) 1 8 Try.underlying22 hi0 hz0 hz1 hz2 rfl (by decide) (.slice ao1 l.length cap1) l.length (l.map (Value.int .i64)) rfl HO.out
        (.slice (some ⟨b, 0, none⟩) 1 1) 1 [.int .i64 x] rfl (Sl.of_block (HL.out (b, .cells #[.int .i64 x] 3) (by simp)) rfl (Nat.le_refl _)) rfl (by simp [Value.oneCell']) (by unfold maxLen; omega) (by omega) (Keep.le (by assumption) (by omega)) (by assumption) (Nat.le_refl _)
        (l.length + 1) rfl ((l ++ [x]).map (Value.int .i64)) (by simp) ?_
       intro ao2 cap2 w1 HO2 HG2 HW2 hk
       have HA2 := Lib.hid (Apart.append HA.out HL.out HW2.out)
       have HB := Lib.hid (HB.out.grown HG2.out (by have := HB.out.size; omega) (fun g hg => by have := (HO.out.lt g hg).1; omega))
       have HL := Lib.hid (HL.out.append HG2.out HA.out)
       clear HG2 HW2)
    | (refine eff_one (i := 11) rfl rfl (fun K hK => ?_); conv => arg 2; whnf
       have HF1 := Lib.hid (HL.out (d, .cells #[.int .i64 0, .slice none 0 0] 25) (by first | exact List.mem_cons_self | exact List.mem_cons_of_mem _ List.mem_cons_self))
       have f0 : w1.cell? ⟨d, 0, none⟩ = some (.int .i64 0) := cell_of_row _ _ 0 _ _ _ HF1.out
       have f1 : w1.cell? ⟨d, 1, none⟩ = some (.slice none 0 0) := cell_of_row _ _ 1 _ _ _ HF1.out
       have f2 : ∀ o, w1.frozen? ⟨d, o, none⟩ = false := fun o => by simp [World.frozen?, HF1.out])
    | (refine and_then (Keep.setCell (Keep.setCell (by assumption) _ (.inl hdl.out)) _ (.inl hdl.out)) (fun hkF => ?_))
    | (refine plan_done ?_)
    | (trace_state; fail))
  all_goals
    refine KEY.out d ao2 cap2 _ _ _ _ _ _ _ _ _ _ _ _ (heap_set2 HF1.out _ _) hkF ?_ hdl ((HB.out.setCell (by have := hdl.out; simp; omega) _).setCell (by have := hdl.out; simp; omega) _)
    refine owns_same HO2.out fun g hg => ?_
    have hne : d ≠ g := HA2.out (d, .cells #[.int .i64 0, .slice none 0 0] 25) (by first | exact List.mem_cons_self | exact List.mem_cons_of_mem _ List.mem_cons_self) g hg
    rw [Below.heap_setCell _ _ _ _ (by simpa using hne.symm), Below.heap_setCell _ _ _ _ (by simpa using hne.symm)]
end Go.Proofs.Ytbomebnonkcieaa
