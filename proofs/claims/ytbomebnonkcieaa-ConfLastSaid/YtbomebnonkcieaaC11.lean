import Derived.Test.YtbomebnonkcieaaC10
namespace Go.Proofs.Ytbomebnonkcieaa
open Go.RowKit Go.Mem Go.Draw

set_option maxHeartbeats 800000 in
/-- ref.Without where it may not be, or is not there -/
theorem refWithout_none (n : Int) (v : Value) (l : List Int) (x : Int) (w : World) (h : SlI w v l) (hno : mayC n l = false ∨ idx x l 0 < 0) :
    Calls Try.prog 19 #[.agg #[.int .i64 n, v], .int .i64 x] w (ConfR w false n (rmI l x)) := by
  obtain ⟨ao, cap, rfl⟩ := h.agg
  have H := Lib.hid h
  clear h
  cases m1 : mayC n l
  · have M1 := Lib.hid m1
    clear m1 hno
    go_enter Try.func19, Try.ntmps19
    go_wp2_with fail
    refine (place_any n _ l x _ ((H.out.alloc _).alloc _)).mono ?_
    rintro e w1 ⟨rfl, hw1⟩
    obtain ⟨q1, q2⟩ := New.cells hw1
    have HW1 := Lib.hid hw1
    have g1 : w.heap.size < w1.heap.size := by have := hw1.size; simp at this; omega
    have g2 : w.heap.size + 1 < w1.heap.size := by have := hw1.size; simp at this; omega
    clear hw1
    go_wp2_with fail
    refine (mayConf_is n _ l _ (((H.out.alloc _).alloc _).new HW1.out) false M1.out).mono ?_
    rintro e w2 ⟨rfl, hw2⟩
    obtain ⟨q3, q4⟩ := New.cells hw2
    have HW2 := Lib.hid hw2
    clear hw2
    go_wp2_with fail
    refine bodyPost_ret (v := .tuple #[.agg #[.int .i64 0, .slice none 0 0], .bool false]) (by simp [results, Try.results19, go_sem, *]) rfl ⟨_, _, rfl, rfl, Sl.nil _, ?_⟩
    exact ((((((Below.refl _ _).alloc (Nat.le_refl _) _).alloc (by simp) _).step HW1.out (by simp; omega)).step HW2.out (by omega)).setCell (by simp) _).setCell (by simp) _
  · have hi : idx x l 0 < 0 := by rcases hno with h | h; rw [m1] at h; cases h; exact h
    have t0 : decide (idx x l 0 < 0) = true := by simpa using hi
    have M1 := Lib.hid m1
    clear m1 hno
    go_enter Try.func19, Try.ntmps19
    go_wp2_with fail
    refine (place_any n _ l x _ ((H.out.alloc _).alloc _)).mono ?_
    rintro e w1 ⟨rfl, hw1⟩
    obtain ⟨q1, q2⟩ := New.cells hw1
    have HW1 := Lib.hid hw1
    have g1 : w.heap.size < w1.heap.size := by have := hw1.size; simp at this; omega
    have g2 : w.heap.size + 1 < w1.heap.size := by have := hw1.size; simp at this; omega
    clear hw1
    go_wp2_with fail
    refine (mayConf_is n _ l _ (((H.out.alloc _).alloc _).new HW1.out) true M1.out).mono ?_
    rintro e w2 ⟨rfl, hw2⟩
    obtain ⟨q3, q4⟩ := New.cells hw2
    have HW2 := Lib.hid hw2
    clear hw2
    go_wp2_with fail
    refine bodyPost_ret (v := .tuple #[.agg #[.int .i64 0, .slice none 0 0], .bool false]) (by simp [results, Try.results19, go_sem, *]) rfl ⟨_, _, rfl, rfl, Sl.nil _, ?_⟩
    exact ((((((Below.refl _ _).alloc (Nat.le_refl _) _).alloc (by simp) _).step HW1.out (by simp; omega)).step HW2.out (by omega)).setCell (by simp) _).setCell (by simp) _

theorem sl_drop {w : World} {b o cap k : Nat} {l : List Int} (h : SlI w (.slice (some ⟨b, o, none⟩) l.length cap) l) (hk : k < l.length) :
    ∃ o2, (if cap = k + 1 then some (⟨b, o, none⟩ : Addr) else some ⟨b, o + (k + 1), none⟩) = some ⟨b, o2, none⟩ ∧ Hid (SlI w (.slice (some ⟨b, o2, none⟩) (l.length - (k + 1)) (cap - (k + 1))) (l.drop (k + 1))) := by
  obtain ⟨ao, cap', he, h1, h2, h3, h4, h5⟩ := h
  cases he
  have e1 : (l.drop (k+1)).length = l.length - (k + 1) := by simp
  by_cases hc : cap = k + 1
  · refine ⟨o, by simp [hc], some ⟨b, o, none⟩, cap - (k+1), by rw [e1], by omega, by omega, fun hn => by omega, fun h => by simp at h, fun hn => ?_⟩
    rw [List.eq_nil_of_length_eq_zero hn]; rfl
  · refine ⟨o + (k + 1), by simp [hc], some ⟨b, o + (k + 1), none⟩, cap - (k+1), by rw [e1], by omega, by omega, fun hn => ?_, fun h => by simp at h, fun hn => ?_⟩
    · obtain ⟨b', o', e, hr⟩ := h3 (by omega)
      cases e
      refine ⟨b, o + (k+1), rfl, fun j u hu => ?_⟩
      have := hr (k + 1 + j) u (by rw [← hu]; simp)
      rw [show o + (k + 1) + j = o + (k + 1 + j) by omega]
      exact this
    · rw [List.eq_nil_of_length_eq_zero hn]; rfl

set_option maxHeartbeats 800000 in
theorem refWithout_some (n : Int) (v : Value) (l : List Int) (x : Int) (w : World) (h : SlI w v l) (hl : l.length ≤ 1000000) (m1 : mayC n l = true) (k : Nat) (hik : idx x l 0 = k) :
    Calls Try.prog 19 #[.agg #[.int .i64 n, v], .int .i64 x] w (ConfR w (tOk n l (l.eraseIdx k)) n (l.eraseIdx k)) := by
  obtain ⟨i0, hi0, hz0, hz1, hz2⟩ := info_parts Try.info3
  have hkl : k < l.length := by have := (idx_lt (x := x) l 0 (by omega)).2; omega
  have hn := mayC_bd m1
  have hw0 : IntKind.i64.wrap (n + 1) = n + 1 := by rw [IntKind.wrap_i64]; omega
  have t0 : decide ((k : Int) < 0) = false := by simp
  have hc : l.length ≤ (match v with | .slice _ _ c => c | _ => 0) := by obtain ⟨_, _, rfl, h1, _⟩ := h; exact h1
  obtain ⟨b, o, cap, rfl⟩ : ∃ b o cap, v = .slice (some ⟨b, o, none⟩) l.length cap := by
    obtain ⟨ao, cap, rfl, h1, h2, h3, _⟩ := h
    obtain ⟨b, o, rfl, _⟩ := h3 (by omega)
    exact ⟨b, o, cap, by simp⟩
  dsimp only at hc
  have H := Lib.hid h
  have HIK := Lib.hid hik
  have M1 := Lib.hid m1
  clear h m1
  go_enter Try.func19, Try.ntmps19
  go_wp2_with fail
  refine (place_any n _ l x _ ((H.out.alloc _).alloc _)).mono ?_
  rw [hik]
  clear hik
  rintro e w1 ⟨rfl, hw1⟩
  obtain ⟨q1, q2⟩ := New.cells hw1
  have HW1 := Lib.hid hw1
  have g1 : w.heap.size < w1.heap.size := by have := hw1.size; simp at this; omega
  have g2 : w.heap.size + 1 < w1.heap.size := by have := hw1.size; simp at this; omega
  clear hw1
  go_wp2_with fail
  refine (mayConf_is n _ l _ (((H.out.alloc _).alloc _).new HW1.out) true M1.out).mono ?_
  rintro e W ⟨rfl, hw2⟩
  obtain ⟨q3, q4⟩ := New.cells hw2
  have HW2 := Lib.hid hw2
  clear hw2
  go_wp2_with fail
  have HN : Hid (New w W) := (((Below.refl _ _).alloc (Nat.le_refl _) _).alloc (by simp) _ |>.step HW1.out (by simp; omega)).step HW2.out (by omega)
  have a0 : W.cell? ⟨w.heap.size, 0, none⟩ = some (.int .i64 n) := by simp [go_sem, *]
  have a1 : W.cell? ⟨w.heap.size, 1, none⟩ = some (.slice (some ⟨b, o, none⟩) l.length cap) := by simp [go_sem, *]
  have hz : w.heap.size + 2 ≤ W.heap.size := by have := HW2.out.size; omega
  have l0 : w.heap.size < w.heap.size + 2 := by omega
  have HR : Hid (W.heap[w.heap.size + 1]? = some (.cells #[.int .i64 0, .slice none 0 0] 25 (0, 0))) := (HW2.out.block _ (by omega)).trans ((HW1.out.block _ (by simp)).trans (heap_alloc2_new _ _ _))
  have hk1 : Keep (w.heap.size + 2) [] W W.drew := (Keep.refl hz (by simp)).drew
  clear q1 q2 q3 q4 HW1 HW2 g1 g2
  rename_i KR aR
  have hlen : (l.eraseIdx k).length = l.length - 1 := by simp [List.length_eraseIdx, hkl]
  have key : ∀ (d : Nat) (ao5 : Option Addr) (cap5 : Nat) (t3 t8 t9 t10 t11 t12 t13 t14 t15 t16 t17 t19 t20 t21 t22 t23 t24 t25 t26 t27 t28 t29 t30 t31 t32 t33 : Value) (wF : World), Hid (wF.heap[d]? = some (.cells #[.int .i64 (n+1), .slice ao5 (l.length-1) cap5] 25 (0, 0))) →
      Hid (Keep (w.heap.size + 2) [] W wF) → Hid (wF.ownsRow (w.heap.size + 2) 3 1 (.slice ao5 (l.length-1) cap5) (l.length - 1) ((l.eraseIdx k).map (Value.int .i64))) → Hid (w.heap.size + 2 ≤ d) → Hid (Below w.heap.size w wF) →
      KR { tmps := #[.agg #[.int .i64 n, .slice (some ⟨b, o, none⟩) l.length cap], .int .i64 x, .pointer (some ⟨w.heap.size, 0, none⟩), t3, .pointer (some ⟨w.heap.size + 1, 0, none⟩), .bool false, .int .i64 k, .pointer (some ⟨d, 0, none⟩), t8, t9, t10, t11, t12, t13, t14, t15, t16, t17, undef, t19, t20, t21, t22, t23, t24, t25, t26, t27, t28, t29, t30, t31, t32, t33, undef, undef, undef, undef, undef], defers := [] } wF := by
    intro d ao5 cap5 t3 t8 t9 t10 t11 t12 t13 t14 t15 t16 t17 t19 t20 t21 t22 t23 t24 t25 t26 t27 t28 t29 t30 t31 t32 t33 wF F1 F2 F3 F4 HwF
    have hr := (F2.out.b (w.heap.size + 1) (by omega) (by simp)).trans HR.out
    have r0 : wF.cell? ⟨w.heap.size + 1, 0, none⟩ = some (.int .i64 0) := cell_of_row _ _ _ _ _ _ hr
    have r1 : wF.cell? ⟨w.heap.size + 1, 1, none⟩ = some (.slice none 0 0) := cell_of_row _ _ _ _ _ _ hr
    have r2 : ∀ o, wF.frozen? ⟨w.heap.size + 1, o, none⟩ = false := fun o => by simp [World.frozen?, hr]
    have d0 : wF.cell? ⟨d, 0, none⟩ = some (.int .i64 (n+1)) := cell_of_row _ _ _ _ _ _ F1.out
    have d1 : wF.cell? ⟨d, 1, none⟩ = some (.slice ao5 (l.length-1) cap5) := cell_of_row _ _ _ _ _ _ F1.out
    have ls1 : w.heap.size + 1 < wF.heap.size := by have := F2.out.a; omega
    have ld : d < wF.heap.size := (Array.getElem?_eq_some_iff.1 F1.out).1
    clear hr
    refine aR _ _ ?_
    clear aR KR
    have HF2 : Hid (SlI wF (.slice ao5 (l.length-1) cap5) (l.eraseIdx k)) := SlI.of_owns F3.out rfl (by rw [hlen]; omega)
    cases m2 : mayC (n+1) (l.eraseIdx k)
    · have M2 := Lib.hid m2
      have ok : tOk n l (l.eraseIdx k) = false := by simp [tOk, m2]
      rw [ok]
      clear m2 ok
      go_wp2_with fail
      refine (mayConf_is (n+1) _ (l.eraseIdx k) _ HF2.out false M2.out).mono ?_
      rintro e w2 ⟨rfl, hw2⟩
      obtain ⟨q3, q4⟩ := New.cells hw2
      have HW2 := Lib.hid hw2
      clear hw2
      go_wp2_with fail
      refine bodyPost_ret (v := .tuple #[.agg #[.int .i64 0, .slice none 0 0], .bool false]) (by simp [results, Try.results19, go_sem, *]) rfl ⟨_, _, rfl, rfl, Sl.nil _, ?_⟩
      exact ((HwF.out.step HW2.out (by omega)).setCell (by simp) _).setCell (by simp) _
    · have M2 := Lib.hid m2
      have ok : tOk n l (l.eraseIdx k) = true := by simp [tOk, M1.out, m2]
      rw [ok]
      clear m2 ok
      go_wp2_with fail
      refine (mayConf_is (n+1) _ (l.eraseIdx k) _ HF2.out true M2.out).mono ?_
      rintro e w2 ⟨rfl, hw2⟩
      obtain ⟨q3, q4⟩ := New.cells hw2
      have HW2 := Lib.hid hw2
      clear hw2
      go_wp2_with fail
      refine bodyPost_ret (v := .tuple #[.agg #[.int .i64 (n+1), .slice ao5 (l.length-1) cap5], .bool true]) (by simp [results, Try.results19, go_sem, *]) rfl ⟨_, _, rfl, rfl, ?_, ?_⟩
      · refine SlI.of_owns (ownsRow_setCell_below (ownsRow_setCell_below (owns_new F3.out HW2.out) ?_ _) ?_ _) rfl (by show (l.eraseIdx k).length ≤ _; rw [hlen]; omega)
        · show w.heap.size + 1 < w.heap.size + 2; omega
        · show w.heap.size + 1 < w.heap.size + 2; omega
      · exact ((HwF.out.step HW2.out (by omega)).setCell (by simp) _).setCell (by simp) _
  clear aR
  have KEY := Lib.hid key
  clear key
  have HL : Hid (Held [] W.drew) := Held.nil _
  have HB : Hid (Below w.heap.size w W.drew) := HN.out.drew
  have hk1' : (k : Int) ≤ (l.length : Int) := by omega
  have hwk : IntKind.i64.wrap ((k : Int) + 1) = (k : Int) + 1 := by rw [IntKind.wrap_i64]; omega
  have hk2 : (k : Int) + 1 ≤ (l.length : Int) := by omega
  have hk3 : (0 : Int) ≤ (k : Int) + 1 := by omega
  have hk4 : ((k : Int) + 1).toNat = k + 1 := by omega
  have hk5 : k ≤ cap := by omega
  have HLEN := Lib.hid hlen
  clear hlen
  obtain ⟨o2, hA, HD⟩ := sl_drop H.out hkl
  have HT : Hid (SlI w (.slice (some ⟨b, o, none⟩) k cap) (l.take k)) := H.out.take (by omega)
  have hl2 : (l.take k).length = k := by simp; omega
  have HL2 := Lib.hid hl2
  clear hl2
  refine wp_plan (.take 0 (.take 1 (.take 2 (.take 3 (.take 4 (.take 5 (.take 6 (.take 8 (.take 9 (.take 10 (.take 11 (.take 12 (.eff2 7 15 (.eff2 13 15 (.take 14 (.eff 15 (.eff 16 (.done)))) (.eff 13 (.take 14 (.eff 16 (.done))))) (.eff 7 (.eff 13 (.take 14 (.eff 16 (.done)))))))))))))))))) (Keep (w.heap.size + 2) [] W) (by kernel_rfl) (by kernel_rfl) hk1 ?_
  go_wp2_with (first
    | (refine take_silent rfl rfl rfl (fun K hK => ?_); conv => arg 2; whnf)
    | (refine take_fieldAddr rfl rfl (by kernel_rfl) rfl (fun K hK => ?_); conv => arg 2; whnf)
    | (refine take_load' rfl rfl rfl rfl (by assumption) l0 (by simp) (by first | exact a0 | exact a1) (fun K hK => ?_); conv => arg 2; whnf)
    | (refine take_int rfl rfl rfl rfl rfl (fun K hK => ?_); conv => arg 2; whnf)
    | (refine take_build rfl rfl rfl (fun K hK => ?_); conv => arg 2; whnf)
    | (refine eff_two ?_ ?_)
    | (refine eff_append_sl (i := 7) rfl rfl (.const (.slice none 0 0)) (.tmp 25) 22 rfl _ 3 i0 (.int .i64 0) 1 8 Try.underlying22 hi0 hz0 hz1 hz2 rfl (by decide) (.slice none 0 0) 0 [] rfl (World.ownsRow_nil _ _ _ _)
        (.slice (some ⟨b, o, none⟩) k cap) k ((l.take k).map (Value.int .i64)) rfl (by have := HT.out.same (Keep.old (by assumption) HN.out (by omega) (by simp)); unfold SlI at this; rw [HL2.out] at this; exact this) (by rw [List.length_map, HL2.out]; simp) (ints_oneCell _ _) (by unfold maxLen; omega) (by omega) (Nat.le_refl _) (by assumption) (Keep.le (by assumption) (by omega))
        k (Nat.zero_add _) ((l.take k).map (Value.int .i64)) rfl ?_
       intro ao1 cap1 w1 HO1 HG1 _ hk
       have HN1 := Lib.hid (New.of_grown HG1.out)
       have HA := Lib.hid (Apart.start HL.out HO1.out (Nat.le_refl _))
       have HB := Lib.hid (HB.out.step HN1.out (by have := HB.out.size; omega))
       have HL := Lib.hid (HL.out.new HN1.out)
       have HO := Lib.hid (owns_le HO1.out (show w.heap.size + 2 ≤ _ from Keep.le (by assumption) (by omega)))
       clear HG1 HN1 HO1)
    | (refine eff_alloc (i := 15) rfl rfl 25 rfl (.agg #[.int .i64 0, .slice none 0 0]) Try.zero25 (by assumption) HL ?_
       intro d w1 hd1 hdl HL HN1 hk
       try (have HA := Lib.hid (Apart.cons (o := .cells #[.int .i64 0, .slice none 0 0] 25) HA.out HO.out hd1.out))
       try (have HO := Lib.hid (owns_new HO.out HN1.out))
       try (have HA2 := Lib.hid (Apart.cons (o := .cells #[.int .i64 0, .slice none 0 0] 25) HA2.out HO2.out hd1.out))
       try (have HO2 := Lib.hid (owns_new HO2.out HN1.out))
       have HB := Lib.hid (HB.out.step HN1.out (by have := HB.out.size; omega))
       clear HN1 hd1)
    | (refine eff_append_sl (i := 13) rfl rfl (.tmp 26) (.tmp 31) 22 rfl (w.heap.size + 2) 3 i0 (.int .i64 0) 1 8 Try.underlying22 hi0 hz0 hz1 hz2 rfl (by decide) (.slice ao1 k cap1) k ((l.take k).map (Value.int .i64)) rfl HO.out
        (.slice (some ⟨b, o2, none⟩) (l.length - (k + 1)) (cap - (k + 1))) (l.length - (k + 1)) ((l.drop (k + 1)).map (Value.int .i64)) rfl (by have := HD.out.same (Keep.old (by assumption) HN.out (by omega) (by simp)); unfold SlI at this; rw [List.length_drop] at this; exact this) (by simp) (ints_oneCell _ _) (by unfold maxLen; omega) (by omega) (Keep.le (by assumption) (by omega)) (by assumption) (Nat.le_refl _)
        (l.length - 1) (by omega) ((l.eraseIdx k).map (Value.int .i64)) (by rw [← List.map_append, List.eraseIdx_eq_take_drop_succ]) ?_
       intro ao2 cap2 w1 HO2 HG2 HW2 hk
       have HA2 := Lib.hid (Apart.append HA.out HL.out HW2.out)
       have HB := Lib.hid (HB.out.grown HG2.out (by have := HB.out.size; omega) (fun g hg => by have := (HO.out.lt g hg).1; omega))
       have HL := Lib.hid (HL.out.append HG2.out HA.out)
       clear HG2 HW2)
    | (refine eff_one (i := 16) rfl rfl (fun K hK => ?_); conv => arg 2; whnf
       have HF1 := Lib.hid (HL.out (d, .cells #[.int .i64 0, .slice none 0 0] 25) (by first | exact List.mem_cons_self | exact List.mem_cons_of_mem _ List.mem_cons_self))
       have f0 : w1.cell? ⟨d, 0, none⟩ = some (.int .i64 0) := cell_of_row _ _ 0 _ _ _ HF1.out
       have f1 : w1.cell? ⟨d, 1, none⟩ = some (.slice none 0 0) := cell_of_row _ _ 1 _ _ _ HF1.out
       have f2 : ∀ o, w1.frozen? ⟨d, o, none⟩ = false := fun o => by simp [World.frozen?, HF1.out])
    | (refine and_then (Keep.setCell (Keep.setCell (by assumption) _ (.inl hdl.out)) _ (.inl hdl.out)) (fun hkF => ?_))
    | (refine plan_done ?_))
  all_goals
    refine KEY.out d ao2 cap2 _ _ _ _ _ _ _ _ _ _ _ _ _ _ _ _ _ _ _ _ _ _ _ _ _ _ _ (heap_set2 HF1.out _ _) hkF ?_ hdl ((HB.out.setCell (by have := hdl.out; simp; omega) _).setCell (by have := hdl.out; simp; omega) _)
    refine owns_same HO2.out fun g hg => ?_
    have hne : d ≠ g := HA2.out (d, .cells #[.int .i64 0, .slice none 0 0] 25) (by first | exact List.mem_cons_self | exact List.mem_cons_of_mem _ List.mem_cons_self) g hg
    rw [Below.heap_setCell _ _ _ _ (by simpa using hne.symm), Below.heap_setCell _ _ _ _ (by simpa using hne.symm)]

theorem refWithout_any (n : Int) (v : Value) (l : List Int) (x : Int) (w : World) (h : SlI w v l) (hl : l.length ≤ 1000000) :
    Calls Try.prog 19 #[.agg #[.int .i64 n, v], .int .i64 x] w (ConfR w (rmOk n l x) n (rmI l x)) := by
  by_cases hi : idx x l 0 < 0
  · have : rmOk n l x = false := by simp [rmOk]; omega
    rw [this]; exact refWithout_none n v l x w h (.inr hi)
  · cases m1 : mayC n l
    · have : rmOk n l x = false := by simp [rmOk, tOk, m1]
      rw [this]; exact refWithout_none n v l x w h (.inl m1)
    · have hk : idx x l 0 = ((idx x l 0).toNat : Int) := by omega
      have : rmOk n l x = tOk n l (rmI l x) := by simp [rmOk]; omega
      rw [this]; exact refWithout_some n v l x w h hl m1 (idx x l 0).toNat hk
end Go.Proofs.Ytbomebnonkcieaa
