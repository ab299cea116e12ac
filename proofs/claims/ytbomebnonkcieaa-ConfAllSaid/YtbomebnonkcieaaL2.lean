import Derived.Test.YtbomebnonkcieaaL1
import Derived.Test.YtbomebnonkcieaaD5
namespace Go.Proofs.Ytbomebnonkcieaa
open Go.RowKit Go.Mem Go.Draw

theorem gen_of {w : World} {b : Bool} {n : Int} {l : List Int} {m : Int} {D : List Int} (hm : (if b then n + 1 else 0) = m) (hD : (if b then l else []) = D) {e : Ending} {w' : World} (h : ConfR w b n l e w') :
    ∃ ao cap, e = .returned (.tuple #[.agg #[.int .i64 m, .slice ao D.length cap], .bool b]) ∧ Hid (SlI w' (.slice ao D.length cap) D) ∧ New w w' := by
  obtain ⟨m', u, rfl, rfl, hs, hn⟩ := h
  rw [hD] at hs
  obtain ⟨ao, cap, rfl⟩ := hs.agg
  exact ⟨ao, cap, by rw [hm], hs, hn⟩
theorem gate_of {t : List Int} {x : Int} : decide (0 ≤ idx x t 0) = hasI t x := by
  have := idx_mem (x := x) t 0 (by omega)
  simp only [hasI]
  rw [Bool.eq_iff_iff]
  simpa using this

set_option maxHeartbeats 1600000 in
theorem confAll_yes (n : Int) (hn : -9223372036854775808 ≤ n ∧ n ≤ 9223372036854775807) (v : Value) (l : List Int) (x : Int) (w : World) (h : SlI w v l) :
    Calls Try.prog 3 #[.int .i64 n, v, .int .i64 x] w fun e w' => e = .returned (.bool true) ∧ New w w' := by
  obtain ⟨i0, hi0, hz0, hz1, hz2⟩ := info_parts Try.info3
  have hc : ∃ ao cap, v = .slice ao l.length cap ∧ l.length ≤ cap := by obtain ⟨ao, cap, rfl, h1, _⟩ := h; exact ⟨ao, cap, by simp, h1⟩
  obtain ⟨ao, cap, rfl, hcap⟩ := hc
  have hcut : ∃ t : List Int, t.length ≤ 8 ∧ Hid (SlI w (.slice ao t.length cap) t) ∧ ((decide (8 < (l.length : Int)) = true ∧ t.length = 8 ∧ 8 ≤ l.length) ∨ (decide (8 < (l.length : Int)) = false ∧ t = l)) := by
    by_cases h8 : 8 < l.length
    · have hl : (l.take 8).length = 8 := by simp; omega
      refine ⟨l.take 8, by omega, ?_, .inl ⟨decide_eq_true (by omega), hl, by omega⟩⟩
      rw [hl]; exact h.take (by omega)
    · exact ⟨l, by omega, h, .inr ⟨decide_eq_false (by omega), rfl⟩⟩
  obtain ⟨t, ht8, H, hcase⟩ := hcut
  clear h
  have htc : t.length ≤ cap := by rcases hcase with ⟨_, h1, h2⟩ | ⟨_, rfl⟩ <;> omega
  have hgate := gate_of (t := t) (x := x)
  obtain ⟨m1, hm1'⟩ : ∃ m, (if tOk n t (t ++ [x]) then n + 1 else 0) = m := ⟨_, rfl⟩
  obtain ⟨D1, hD1'⟩ : ∃ D, (if tOk n t (t ++ [x]) then t ++ [x] else []) = D := ⟨_, rfl⟩
  obtain ⟨m2, hm2'⟩ : ∃ m, (if rmOk n t x then n + 1 else 0) = m := ⟨_, rfl⟩
  obtain ⟨D2, hD2'⟩ : ∃ D, (if rmOk n t x then rmI t x else []) = D := ⟨_, rfl⟩
  have hm1 := Lib.hid hm1'
  have hD1 := Lib.hid hD1'
  have hm2 := Lib.hid hm2'
  have hD2 := Lib.hid hD2'
  clear hm1' hD1' hm2' hD2'
  go_enter Try.func3, Try.ntmps3
  go_wp2_with fail
  refine (begun_yes _).mono ?_
  rintro e w1 ⟨rfl, hn1⟩
  have HN := Lib.hid hn1
  have g1 := hn1.size
  clear hn1
  rcases hcase with ⟨hd8, h81, h82⟩ | ⟨hd8, h81⟩
  · have h83 : (8 : Int) ≤ (l.length : Int) := by omega
    have h84 : 8 ≤ cap := by omega
    rw [h81] at H
    by_cases hmax : n = 9223372036854775807
    · have hmx : (n == 9223372036854775807) = true := by simp [hmax]
      have HNO := Lib.hid ((mayC_false (n := n) (l := t) (fun hh => by omega)).symm)
      clear hmax hn
      go_wp2_with (first
          | (at_builtin
             refine wpList_append_sl rfl (.const (.slice none 0 0)) (.tmp 25) 22 rfl w1.heap.size 3 i0 (.int .i64 0) 1 8 Try.underlying22 hi0 hz0 hz1 hz2 rfl (by decide) (.slice none 0 0) 0 [] rfl (World.ownsRow_nil _ _ _ _)
               (.slice ao 8 cap) 8 (t.map (Value.int .i64)) rfl (by have := H.out.new HN.out; unfold SlI at this; rwa [h81] at this) (by simp; exact h81) (ints_oneCell _ _) (by unfold maxLen; omega) (by omega) (Nat.le_refl _) ?_
             intro v2 w2 hO2 hG2 _
             rw [Nat.zero_add, List.nil_append] at hO2
             obtain ⟨ao2, cap2, rfl⟩ := owns_shape hO2
             have HO2 := Lib.hid hO2
             have HG2 := Lib.hid (New.of_grown hG2)
             clear hO2 hG2))
      have g2 : w.heap.size ≤ w2.heap.size := by have := HG2.out.size; omega
      refine (may_is n _ t _ ((SlI.of_owns HO2.out rfl (by omega)).alloc _) false HNO.out).mono ?_
      rintro e w3 ⟨rfl, hn3⟩
      have HB : Hid (Below w.heap.size w w3) := ((HN.out.step HG2.out g1).alloc g2 _).step hn3 (by simp; omega)
      clear hn3
      go_wp2_with fail
      go_ret
      exact ⟨rfl, HB.out⟩
    · have hmx : (n == 9223372036854775807) = false := by simp [hmax]
      have hnn : -9223372036854775808 ≤ n ∧ n < 9223372036854775807 := by omega
      clear hmax hn
      go_wp2_with (first
          | (at_builtin
             refine wpList_append_sl rfl (.const (.slice none 0 0)) (.tmp 25) 22 rfl w1.heap.size 3 i0 (.int .i64 0) 1 8 Try.underlying22 hi0 hz0 hz1 hz2 rfl (by decide) (.slice none 0 0) 0 [] rfl (World.ownsRow_nil _ _ _ _)
               (.slice ao 8 cap) 8 (t.map (Value.int .i64)) rfl (by have := H.out.new HN.out; unfold SlI at this; rwa [h81] at this) (by simp; exact h81) (ints_oneCell _ _) (by unfold maxLen; omega) (by omega) (Nat.le_refl _) ?_
             intro v2 w2 hO2 hG2 _
             rw [Nat.zero_add, List.nil_append] at hO2
             obtain ⟨ao2, cap2, rfl⟩ := owns_shape hO2
             have HO2 := Lib.hid hO2
             have HG2 := Lib.hid (New.of_grown hG2)
             clear hO2 hG2))
      have g2 : w.heap.size ≤ w2.heap.size := by have := HG2.out.size; omega
      obtain ⟨W, hW⟩ : ∃ W, W = w2.alloc (.cells #[.int .i64 n, .slice ao2 8 cap2] 25) := ⟨_, rfl⟩
      have HC : Hid (SlI W (.slice ao2 8 cap2) t) := by subst hW; exact (SlI.of_owns HO2.out rfl (by omega)).alloc _
      have HL : Hid (Held [(w2.heap.size, .cells #[.int .i64 n, .slice ao2 8 cap2] 25)] W) := by subst hW; exact (Held.nil _).alloc _
      have HB : Hid (Below w.heap.size w W) := by subst hW; exact (HN.out.step HG2.out g1).alloc g2 _
      rw [← hW]
      clear hW HO2 HG2
      obtain ⟨c0, c1⟩ := Held.two HL List.mem_cons_self
      have lc := HL.out.lt List.mem_cons_self
      dsimp only at lc
      have hk1 : New W W.drew := (New.refl W).drew
      refine wp_plan (.take 0 (.take 2 (.eff 1 (.eff 3 (.take 4 (.take 5 (.take 6 (.take 7 (.take 9 (.take 10 (.eff 8 (.eff 11 (.take 12 (.take 13 (.take 14 (.take 15 (.take 16 (.take 18 (.eff 17 (.eff 19 (.take 20 (.take 21 (.take 22 (.take 23 (.take 25 (.eff 24 (.eff 26 (.take 27 (.take 28 (.done)))))))))))))))))))))))))))))) (New W) (by kernel_rfl) (by kernel_rfl) hk1 ?_
      go_wp2_with (first
          | (go_at_call 8; refine (may_any n _ t _ (HC.out.new (by assumption))).mono ?_; rintro e w3 ⟨rfl, hn3⟩; have hkA := New.trans (by assumption) hn3; clear hn3; obtain ⟨q1, q2⟩ := New.cells hkA)
          | (go_at_call 9; refine (mayConf_any n _ t _ (HC.out.new (by assumption))).mono ?_; rintro e w3 ⟨rfl, hn3⟩; have hkA := New.trans (by assumption) hn3; clear hn3; obtain ⟨q1, q2⟩ := New.cells hkA)
          | (go_at_call 10; refine (has_any n _ t x _ (HC.out.new (by assumption))).mono ?_; rintro e w3 ⟨rfl, hn3⟩; have hkA := New.trans (by assumption) hn3; clear hn3; obtain ⟨q1, q2⟩ := New.cells hkA)
          | (go_at_call 11; refine (place_any n _ t x _ (HC.out.new (by assumption))).mono ?_; rintro e w3 ⟨rfl, hn3⟩; have hkA := New.trans (by assumption) hn3; clear hn3; obtain ⟨q1, q2⟩ := New.cells hkA)
          | (go_at_call 12; refine (head_any n _ t _ (HC.out.new (by assumption))).mono ?_; rintro e w3 ⟨rfl, hn3⟩; have hkA := New.trans (by assumption) hn3; clear hn3; obtain ⟨q1, q2⟩ := New.cells hkA)
          | (go_at_call 13; refine (refHead_any n _ t _ (HC.out.new (by assumption))).mono ?_; rintro e w3 ⟨rfl, hn3⟩; have hkA := New.trans (by assumption) hn3; clear hn3; obtain ⟨q1, q2⟩ := New.cells hkA)
          | (go_at_call 14; refine (tail_any n _ t _ (HC.out.new (by assumption))).mono ?_; rintro e w3 ⟨rfl, hn3⟩; have hkA := New.trans (by assumption) hn3; clear hn3; obtain ⟨q1, q2⟩ := New.cells hkA)
          | (go_at_call 15; refine (refTail_any n _ t _ (HC.out.new (by assumption))).mono ?_; rintro e w3 ⟨rfl, hn3⟩; have hkA := New.trans (by assumption) hn3; clear hn3; obtain ⟨q1, q2⟩ := New.cells hkA)
          | (refine q_silent rfl rfl rfl rfl (fun K hK => ?_); conv => arg 2; whnf)
          | (refine q_load rfl rfl rfl rfl rfl (by assumption) lc (by first | exact c0 | exact c1) (fun K hK => ?_); conv => arg 2; whnf)
          | (refine q_int rfl rfl rfl rfl rfl rfl (fun K hK => ?_); conv => arg 2; whnf)
          | (refine q_bool rfl rfl rfl rfl rfl rfl (fun K hK => ?_); conv => arg 2; whnf)
          | (refine q_eff rfl rfl rfl (fun K hK => ?_); conv => arg 2; whnf)
          | (refine and_then (by assumption) (fun hk => ?_))
          | (refine q_done rfl ?_; dsimp only [NoPanic]))
      have HC := Lib.hid (HC.out.new hkA)
      have HL := Lib.hid (HL.out.new hkA)
      have HB := Lib.hid (HB.out.step hkA (by omega))
      have gA : w.heap.size ≤ w3.heap.size := by have := hkA.size; omega
      clear hkA q1 q2
      refine (with_any n _ t x _ HC.out (by omega)).mono ?_
      rintro e w4 hR
      obtain ⟨ao4, cap4, rfl, HD, hn4⟩ := gen_of hm1.out hD1.out hR
      clear hR
      have HC := Lib.hid (HC.out.new hn4)
      have HL := Lib.hid (HL.out.new hn4)
      have HB := Lib.hid (HB.out.step hn4 (by omega))
      have gA : w.heap.size ≤ w4.heap.size := by have := hn4.size; omega
      clear hn4
      obtain ⟨c0, c1⟩ := Held.two HL List.mem_cons_self
      have lc := HL.out.lt List.mem_cons_self
      dsimp only at lc
      go_wp2_with fail
      refine (refWith_any n _ t x _ (HC.out.alloc _) (by omega) hnn).mono ?_
      rintro e w5 hR
      obtain ⟨ao5, cap5, rfl, HE, hn5⟩ := gen_of hm1.out hD1.out hR
      clear hR
      have HC := Lib.hid ((HC.out.alloc _).new hn5)
      have HD := Lib.hid ((HD.out.alloc _).new hn5)
      have HL := Lib.hid ((HL.out.alloc _).new hn5)
      have HB := Lib.hid ((HB.out.alloc gA _).step hn5 (by simp; omega))
      have gA : w.heap.size ≤ w5.heap.size := by have := hn5.size; simp at this; omega
      clear hn5
      obtain ⟨d0, d1⟩ := Held.two HL List.mem_cons_self
      have ld := HL.out.lt List.mem_cons_self
      dsimp only at ld
      clear c0 c1 lc
      obtain ⟨c0, c1⟩ := Held.two HL (List.mem_cons_of_mem _ List.mem_cons_self)
      have lc := HL.out.lt (List.mem_cons_of_mem _ List.mem_cons_self)
      dsimp only at lc
      go_wp2_with fail
      refine (without_any n _ t x _ (HC.out.alloc _) (by omega)).mono ?_
      rintro e w6 hR
      obtain ⟨ao6, cap6, rfl, HF, hn6⟩ := gen_of hm2.out hD2.out hR
      clear hR
      have HC := Lib.hid ((HC.out.alloc _).new hn6)
      have HD := Lib.hid ((HD.out.alloc _).new hn6)
      have HE := Lib.hid ((HE.out.alloc _).new hn6)
      have HL := Lib.hid ((HL.out.alloc _).new hn6)
      have HB := Lib.hid ((HB.out.alloc gA _).step hn6 (by simp; omega))
      have gA : w.heap.size ≤ w6.heap.size := by have := hn6.size; simp at this; omega
      clear hn6
      obtain ⟨e0, e1⟩ := Held.two HL List.mem_cons_self
      have le := HL.out.lt List.mem_cons_self
      dsimp only at le
      clear d0 d1 ld
      obtain ⟨d0, d1⟩ := Held.two HL (List.mem_cons_of_mem _ List.mem_cons_self)
      have ld := HL.out.lt (List.mem_cons_of_mem _ List.mem_cons_self)
      dsimp only at ld
      clear c0 c1 lc
      obtain ⟨c0, c1⟩ := Held.two HL (List.mem_cons_of_mem _ (List.mem_cons_of_mem _ List.mem_cons_self))
      have lc := HL.out.lt (List.mem_cons_of_mem _ (List.mem_cons_of_mem _ List.mem_cons_self))
      dsimp only at lc
      go_wp2_with fail
      refine (refWithout_any n _ t x _ (HC.out.alloc _) (by omega)).mono ?_
      rintro e w7 hR
      obtain ⟨ao7, cap7, rfl, HG, hn7⟩ := gen_of hm2.out hD2.out hR
      clear hR
      have HC := Lib.hid ((HC.out.alloc _).new hn7)
      have HD := Lib.hid ((HD.out.alloc _).new hn7)
      have HE := Lib.hid ((HE.out.alloc _).new hn7)
      have HF := Lib.hid ((HF.out.alloc _).new hn7)
      have HL := Lib.hid ((HL.out.alloc _).new hn7)
      have HB := Lib.hid ((HB.out.alloc gA _).step hn7 (by simp; omega))
      have gA : w.heap.size ≤ w7.heap.size := by have := hn7.size; simp at this; omega
      clear hn7
      obtain ⟨f0, f1⟩ := Held.two HL List.mem_cons_self
      have lf := HL.out.lt List.mem_cons_self
      dsimp only at lf
      clear e0 e1 le
      obtain ⟨e0, e1⟩ := Held.two HL (List.mem_cons_of_mem _ List.mem_cons_self)
      have le := HL.out.lt (List.mem_cons_of_mem _ List.mem_cons_self)
      dsimp only at le
      clear d0 d1 ld
      obtain ⟨d0, d1⟩ := Held.two HL (List.mem_cons_of_mem _ (List.mem_cons_of_mem _ List.mem_cons_self))
      have ld := HL.out.lt (List.mem_cons_of_mem _ (List.mem_cons_of_mem _ List.mem_cons_self))
      dsimp only at ld
      clear c0 c1 lc
      obtain ⟨c0, c1⟩ := Held.two HL (List.mem_cons_of_mem _ (List.mem_cons_of_mem _ (List.mem_cons_of_mem _ List.mem_cons_self)))
      have lc := HL.out.lt (List.mem_cons_of_mem _ (List.mem_cons_of_mem _ (List.mem_cons_of_mem _ List.mem_cons_self)))
      dsimp only at lc
      go_wp2_with fail
      refine (eqConf_is m1 _ D1 m1 _ D1 _ (HD.out.alloc _) (HE.out.alloc _) true (by simp [eqC])).mono ?_
      rintro e w8 ⟨rfl, hn8⟩
      have HC := Lib.hid ((HC.out.alloc _).new hn8)
      have HF := Lib.hid ((HF.out.alloc _).new hn8)
      have HG := Lib.hid ((HG.out.alloc _).new hn8)
      have HL := Lib.hid ((HL.out.alloc _).new hn8)
      have HB := Lib.hid ((HB.out.alloc gA _).step hn8 (by simp; omega))
      have gA : w.heap.size ≤ w8.heap.size := by have := hn8.size; simp at this; omega
      clear hn8
      obtain ⟨g0, g1⟩ := Held.two HL List.mem_cons_self
      have lg := HL.out.lt List.mem_cons_self
      dsimp only at lg
      clear f0 f1 lf
      obtain ⟨f0, f1⟩ := Held.two HL (List.mem_cons_of_mem _ List.mem_cons_self)
      have lf := HL.out.lt (List.mem_cons_of_mem _ List.mem_cons_self)
      dsimp only at lf
      clear e0 e1 le
      obtain ⟨e0, e1⟩ := Held.two HL (List.mem_cons_of_mem _ (List.mem_cons_of_mem _ List.mem_cons_self))
      have le := HL.out.lt (List.mem_cons_of_mem _ (List.mem_cons_of_mem _ List.mem_cons_self))
      dsimp only at le
      clear d0 d1 ld
      obtain ⟨d0, d1⟩ := Held.two HL (List.mem_cons_of_mem _ (List.mem_cons_of_mem _ (List.mem_cons_of_mem _ List.mem_cons_self)))
      have ld := HL.out.lt (List.mem_cons_of_mem _ (List.mem_cons_of_mem _ (List.mem_cons_of_mem _ List.mem_cons_self)))
      dsimp only at ld
      clear c0 c1 lc
      obtain ⟨c0, c1⟩ := Held.two HL (List.mem_cons_of_mem _ (List.mem_cons_of_mem _ (List.mem_cons_of_mem _ (List.mem_cons_of_mem _ List.mem_cons_self))))
      have lc := HL.out.lt (List.mem_cons_of_mem _ (List.mem_cons_of_mem _ (List.mem_cons_of_mem _ (List.mem_cons_of_mem _ List.mem_cons_self))))
      dsimp only at lc
      go_wp2_with fail
      refine (eqConf_is m2 _ D2 m2 _ D2 _ HF.out HG.out true (by simp [eqC])).mono ?_
      rintro e V ⟨rfl, hn9⟩
      have HC := Lib.hid (HC.out.new hn9)
      have HL := Lib.hid (HL.out.new hn9)
      have HB := Lib.hid (HB.out.step hn9 (by omega))
      have gA : w.heap.size ≤ V.heap.size := by have := hn9.size; omega
      clear hn9 c0 c1 lc
      obtain ⟨c0, c1⟩ := Held.two HL (List.mem_cons_of_mem _ (List.mem_cons_of_mem _ (List.mem_cons_of_mem _ (List.mem_cons_of_mem _ List.mem_cons_self))))
      have lc := HL.out.lt (List.mem_cons_of_mem _ (List.mem_cons_of_mem _ (List.mem_cons_of_mem _ (List.mem_cons_of_mem _ List.mem_cons_self))))
      dsimp only at lc
      clear d0 d1 e0 e1 f0 f1 g0 ld le lf lg
      go_wp2_with fail
      have hk1 : New V V.drew := (New.refl V).drew
      cases m3 : mayC n t
      · have M3 := Lib.hid m3
        clear m3
        refine wp_plan (.take 0 (.eff 1 (.take 2 (.take 3 (.take 4 (.take 5 (.take 7 (.take 8 (.eff 6 (.eff 9 (.take 10 (.take 11 (.take 12 (.take 13 (.take 15 (.take 16 (.eff 14 (.eff 17 (.take 18 (.take 19 (.take 20 (.take 21 (.done))))))))))))))))))))))) (New V) (by kernel_rfl) (by kernel_rfl) hk1 ?_
        go_wp2_with (first
            | (go_at_call 8; refine (may_is n _ t _ (HC.out.new (by assumption)) false M3.out).mono ?_; rintro e w3 ⟨rfl, hn3⟩; have hkA := New.trans (by assumption) hn3; clear hn3; obtain ⟨q1, q2⟩ := New.cells hkA)
            | (refine q_skip rfl rfl rfl rfl rfl rfl ?_)
            | (refine q_eskip rfl rfl rfl rfl (by assumption) rfl rfl ?_)
            | (refine q_silent rfl rfl rfl rfl (fun K hK => ?_); conv => arg 2; whnf)
            | (refine q_load rfl rfl rfl rfl rfl (by assumption) lc (by first | exact c0 | exact c1) (fun K hK => ?_); conv => arg 2; whnf)
            | (refine q_int rfl rfl rfl rfl rfl rfl (fun K hK => ?_); conv => arg 2; whnf)
            | (refine q_bool rfl rfl rfl rfl rfl rfl (fun K hK => ?_); conv => arg 2; whnf)
            | (refine q_eff rfl rfl rfl (fun K hK => ?_); conv => arg 2; whnf)
            | (refine and_then (by assumption) (fun hk => ?_))
            | (refine q_done rfl ?_; dsimp only [NoPanic]))
        go_ret
        exact ⟨rfl, HB.out.step hkA gA⟩
      · have M3 := Lib.hid m3
        clear m3
        refine wp_plan (.take 0 (.eff 1 (.take 2 (.take 3 (.take 4 (.take 5 (.take 7 (.take 8 (.eff 6 (.eff 9 (.take 10 (.take 11 (.take 12 (.take 13 (.take 15 (.take 16 (.eff 14 (.eff 17 (.take 18 (.take 19 (.take 20 (.take 21 (.done))))))))))))))))))))))) (New V) (by kernel_rfl) (by kernel_rfl) hk1 ?_
        go_wp2_with (first
            | (go_at_call 8; refine (may_is n _ t _ (HC.out.new (by assumption)) true M3.out).mono ?_; rintro e w3 ⟨rfl, hn3⟩; have hkA := New.trans (by assumption) hn3; clear hn3; obtain ⟨q1, q2⟩ := New.cells hkA)
            | (go_at_call 21; refine (next_any n _ t x _ (HC.out.new (by assumption))).mono ?_; rintro e w3 ⟨rfl, hn3⟩; have hkA := New.trans (by assumption) hn3; clear hn3; obtain ⟨q1, q2⟩ := New.cells hkA)
            | (go_at_call 22; refine (nextOf_any n _ t x _ (HC.out.new (by assumption))).mono ?_; rintro e w3 ⟨rfl, hn3⟩; have hkA := New.trans (by assumption) hn3; clear hn3; obtain ⟨q1, q2⟩ := New.cells hkA)
            | (go_at_call 23; refine (prev_any n _ t x _ (HC.out.new (by assumption))).mono ?_; rintro e w3 ⟨rfl, hn3⟩; have hkA := New.trans (by assumption) hn3; clear hn3; obtain ⟨q1, q2⟩ := New.cells hkA)
            | (go_at_call 24; refine (prevOf_any n _ t x _ (HC.out.new (by assumption))).mono ?_; rintro e w3 ⟨rfl, hn3⟩; have hkA := New.trans (by assumption) hn3; clear hn3; obtain ⟨q1, q2⟩ := New.cells hkA)
            | (refine q_silent rfl rfl rfl rfl (fun K hK => ?_); conv => arg 2; whnf)
            | (refine q_load rfl rfl rfl rfl rfl (by assumption) lc (by first | exact c0 | exact c1) (fun K hK => ?_); conv => arg 2; whnf)
            | (refine q_int rfl rfl rfl rfl rfl rfl (fun K hK => ?_); conv => arg 2; whnf)
            | (refine q_bool rfl rfl rfl rfl rfl rfl (fun K hK => ?_); conv => arg 2; whnf)
            | (refine q_eff rfl rfl rfl (fun K hK => ?_); conv => arg 2; whnf)
            | (refine and_then (by assumption) (fun hk => ?_))
            | (refine q_done rfl ?_; dsimp only [NoPanic]))
        go_ret
        exact ⟨rfl, HB.out.step hkA gA⟩
  · subst h81
    by_cases hmax : n = 9223372036854775807
    · have hmx : (n == 9223372036854775807) = true := by simp [hmax]
      have HNO := Lib.hid ((mayC_false (n := n) (l := t) (fun hh => by omega)).symm)
      clear hmax hn
      go_wp2_with (first
          | (at_builtin
             refine wpList_append_sl rfl (.const (.slice none 0 0)) (.tmp 25) 22 rfl w1.heap.size 3 i0 (.int .i64 0) 1 8 Try.underlying22 hi0 hz0 hz1 hz2 rfl (by decide) (.slice none 0 0) 0 [] rfl (World.ownsRow_nil _ _ _ _)
               (.slice ao t.length cap) t.length (t.map (Value.int .i64)) rfl (by have := H.out.new HN.out; unfold SlI at this; exact this) (by simp) (ints_oneCell _ _) (by unfold maxLen; omega) (by omega) (Nat.le_refl _) ?_
             intro v2 w2 hO2 hG2 _
             rw [Nat.zero_add, List.nil_append] at hO2
             obtain ⟨ao2, cap2, rfl⟩ := owns_shape hO2
             have HO2 := Lib.hid hO2
             have HG2 := Lib.hid (New.of_grown hG2)
             clear hO2 hG2))
      have g2 : w.heap.size ≤ w2.heap.size := by have := HG2.out.size; omega
      refine (may_is n _ t _ ((SlI.of_owns HO2.out rfl (by omega)).alloc _) false HNO.out).mono ?_
      rintro e w3 ⟨rfl, hn3⟩
      have HB : Hid (Below w.heap.size w w3) := ((HN.out.step HG2.out g1).alloc g2 _).step hn3 (by simp; omega)
      clear hn3
      go_wp2_with fail
      go_ret
      exact ⟨rfl, HB.out⟩
    · have hmx : (n == 9223372036854775807) = false := by simp [hmax]
      have hnn : -9223372036854775808 ≤ n ∧ n < 9223372036854775807 := by omega
      clear hmax hn
      go_wp2_with (first
          | (at_builtin
             refine wpList_append_sl rfl (.const (.slice none 0 0)) (.tmp 25) 22 rfl w1.heap.size 3 i0 (.int .i64 0) 1 8 Try.underlying22 hi0 hz0 hz1 hz2 rfl (by decide) (.slice none 0 0) 0 [] rfl (World.ownsRow_nil _ _ _ _)
               (.slice ao t.length cap) t.length (t.map (Value.int .i64)) rfl (by have := H.out.new HN.out; unfold SlI at this; exact this) (by simp) (ints_oneCell _ _) (by unfold maxLen; omega) (by omega) (Nat.le_refl _) ?_
             intro v2 w2 hO2 hG2 _
             rw [Nat.zero_add, List.nil_append] at hO2
             obtain ⟨ao2, cap2, rfl⟩ := owns_shape hO2
             have HO2 := Lib.hid hO2
             have HG2 := Lib.hid (New.of_grown hG2)
             clear hO2 hG2))
      have g2 : w.heap.size ≤ w2.heap.size := by have := HG2.out.size; omega
      obtain ⟨W, hW⟩ : ∃ W, W = w2.alloc (.cells #[.int .i64 n, .slice ao2 t.length cap2] 25) := ⟨_, rfl⟩
      have HC : Hid (SlI W (.slice ao2 t.length cap2) t) := by subst hW; exact (SlI.of_owns HO2.out rfl (by omega)).alloc _
      have HL : Hid (Held [(w2.heap.size, .cells #[.int .i64 n, .slice ao2 t.length cap2] 25)] W) := by subst hW; exact (Held.nil _).alloc _
      have HB : Hid (Below w.heap.size w W) := by subst hW; exact (HN.out.step HG2.out g1).alloc g2 _
      rw [← hW]
      clear hW HO2 HG2
      obtain ⟨c0, c1⟩ := Held.two HL List.mem_cons_self
      have lc := HL.out.lt List.mem_cons_self
      dsimp only at lc
      have hk1 : New W W.drew := (New.refl W).drew
      refine wp_plan (.take 0 (.take 2 (.eff 1 (.eff 3 (.take 4 (.take 5 (.take 6 (.take 7 (.take 9 (.take 10 (.eff 8 (.eff 11 (.take 12 (.take 13 (.take 14 (.take 15 (.take 16 (.take 18 (.eff 17 (.eff 19 (.take 20 (.take 21 (.take 22 (.take 23 (.take 25 (.eff 24 (.eff 26 (.take 27 (.take 28 (.done)))))))))))))))))))))))))))))) (New W) (by kernel_rfl) (by kernel_rfl) hk1 ?_
      go_wp2_with (first
          | (go_at_call 8; refine (may_any n _ t _ (HC.out.new (by assumption))).mono ?_; rintro e w3 ⟨rfl, hn3⟩; have hkA := New.trans (by assumption) hn3; clear hn3; obtain ⟨q1, q2⟩ := New.cells hkA)
          | (go_at_call 9; refine (mayConf_any n _ t _ (HC.out.new (by assumption))).mono ?_; rintro e w3 ⟨rfl, hn3⟩; have hkA := New.trans (by assumption) hn3; clear hn3; obtain ⟨q1, q2⟩ := New.cells hkA)
          | (go_at_call 10; refine (has_any n _ t x _ (HC.out.new (by assumption))).mono ?_; rintro e w3 ⟨rfl, hn3⟩; have hkA := New.trans (by assumption) hn3; clear hn3; obtain ⟨q1, q2⟩ := New.cells hkA)
          | (go_at_call 11; refine (place_any n _ t x _ (HC.out.new (by assumption))).mono ?_; rintro e w3 ⟨rfl, hn3⟩; have hkA := New.trans (by assumption) hn3; clear hn3; obtain ⟨q1, q2⟩ := New.cells hkA)
          | (go_at_call 12; refine (head_any n _ t _ (HC.out.new (by assumption))).mono ?_; rintro e w3 ⟨rfl, hn3⟩; have hkA := New.trans (by assumption) hn3; clear hn3; obtain ⟨q1, q2⟩ := New.cells hkA)
          | (go_at_call 13; refine (refHead_any n _ t _ (HC.out.new (by assumption))).mono ?_; rintro e w3 ⟨rfl, hn3⟩; have hkA := New.trans (by assumption) hn3; clear hn3; obtain ⟨q1, q2⟩ := New.cells hkA)
          | (go_at_call 14; refine (tail_any n _ t _ (HC.out.new (by assumption))).mono ?_; rintro e w3 ⟨rfl, hn3⟩; have hkA := New.trans (by assumption) hn3; clear hn3; obtain ⟨q1, q2⟩ := New.cells hkA)
          | (go_at_call 15; refine (refTail_any n _ t _ (HC.out.new (by assumption))).mono ?_; rintro e w3 ⟨rfl, hn3⟩; have hkA := New.trans (by assumption) hn3; clear hn3; obtain ⟨q1, q2⟩ := New.cells hkA)
          | (refine q_silent rfl rfl rfl rfl (fun K hK => ?_); conv => arg 2; whnf)
          | (refine q_load rfl rfl rfl rfl rfl (by assumption) lc (by first | exact c0 | exact c1) (fun K hK => ?_); conv => arg 2; whnf)
          | (refine q_int rfl rfl rfl rfl rfl rfl (fun K hK => ?_); conv => arg 2; whnf)
          | (refine q_bool rfl rfl rfl rfl rfl rfl (fun K hK => ?_); conv => arg 2; whnf)
          | (refine q_eff rfl rfl rfl (fun K hK => ?_); conv => arg 2; whnf)
          | (refine and_then (by assumption) (fun hk => ?_))
          | (refine q_done rfl ?_; dsimp only [NoPanic]))
      have HC := Lib.hid (HC.out.new hkA)
      have HL := Lib.hid (HL.out.new hkA)
      have HB := Lib.hid (HB.out.step hkA (by omega))
      have gA : w.heap.size ≤ w3.heap.size := by have := hkA.size; omega
      clear hkA q1 q2
      refine (with_any n _ t x _ HC.out (by omega)).mono ?_
      rintro e w4 hR
      obtain ⟨ao4, cap4, rfl, HD, hn4⟩ := gen_of hm1.out hD1.out hR
      clear hR
      have HC := Lib.hid (HC.out.new hn4)
      have HL := Lib.hid (HL.out.new hn4)
      have HB := Lib.hid (HB.out.step hn4 (by omega))
      have gA : w.heap.size ≤ w4.heap.size := by have := hn4.size; omega
      clear hn4
      obtain ⟨c0, c1⟩ := Held.two HL List.mem_cons_self
      have lc := HL.out.lt List.mem_cons_self
      dsimp only at lc
      go_wp2_with fail
      refine (refWith_any n _ t x _ (HC.out.alloc _) (by omega) hnn).mono ?_
      rintro e w5 hR
      obtain ⟨ao5, cap5, rfl, HE, hn5⟩ := gen_of hm1.out hD1.out hR
      clear hR
      have HC := Lib.hid ((HC.out.alloc _).new hn5)
      have HD := Lib.hid ((HD.out.alloc _).new hn5)
      have HL := Lib.hid ((HL.out.alloc _).new hn5)
      have HB := Lib.hid ((HB.out.alloc gA _).step hn5 (by simp; omega))
      have gA : w.heap.size ≤ w5.heap.size := by have := hn5.size; simp at this; omega
      clear hn5
      obtain ⟨d0, d1⟩ := Held.two HL List.mem_cons_self
      have ld := HL.out.lt List.mem_cons_self
      dsimp only at ld
      clear c0 c1 lc
      obtain ⟨c0, c1⟩ := Held.two HL (List.mem_cons_of_mem _ List.mem_cons_self)
      have lc := HL.out.lt (List.mem_cons_of_mem _ List.mem_cons_self)
      dsimp only at lc
      go_wp2_with fail
      refine (without_any n _ t x _ (HC.out.alloc _) (by omega)).mono ?_
      rintro e w6 hR
      obtain ⟨ao6, cap6, rfl, HF, hn6⟩ := gen_of hm2.out hD2.out hR
      clear hR
      have HC := Lib.hid ((HC.out.alloc _).new hn6)
      have HD := Lib.hid ((HD.out.alloc _).new hn6)
      have HE := Lib.hid ((HE.out.alloc _).new hn6)
      have HL := Lib.hid ((HL.out.alloc _).new hn6)
      have HB := Lib.hid ((HB.out.alloc gA _).step hn6 (by simp; omega))
      have gA : w.heap.size ≤ w6.heap.size := by have := hn6.size; simp at this; omega
      clear hn6
      obtain ⟨e0, e1⟩ := Held.two HL List.mem_cons_self
      have le := HL.out.lt List.mem_cons_self
      dsimp only at le
      clear d0 d1 ld
      obtain ⟨d0, d1⟩ := Held.two HL (List.mem_cons_of_mem _ List.mem_cons_self)
      have ld := HL.out.lt (List.mem_cons_of_mem _ List.mem_cons_self)
      dsimp only at ld
      clear c0 c1 lc
      obtain ⟨c0, c1⟩ := Held.two HL (List.mem_cons_of_mem _ (List.mem_cons_of_mem _ List.mem_cons_self))
      have lc := HL.out.lt (List.mem_cons_of_mem _ (List.mem_cons_of_mem _ List.mem_cons_self))
      dsimp only at lc
      go_wp2_with fail
      refine (refWithout_any n _ t x _ (HC.out.alloc _) (by omega)).mono ?_
      rintro e w7 hR
      obtain ⟨ao7, cap7, rfl, HG, hn7⟩ := gen_of hm2.out hD2.out hR
      clear hR
      have HC := Lib.hid ((HC.out.alloc _).new hn7)
      have HD := Lib.hid ((HD.out.alloc _).new hn7)
      have HE := Lib.hid ((HE.out.alloc _).new hn7)
      have HF := Lib.hid ((HF.out.alloc _).new hn7)
      have HL := Lib.hid ((HL.out.alloc _).new hn7)
      have HB := Lib.hid ((HB.out.alloc gA _).step hn7 (by simp; omega))
      have gA : w.heap.size ≤ w7.heap.size := by have := hn7.size; simp at this; omega
      clear hn7
      obtain ⟨f0, f1⟩ := Held.two HL List.mem_cons_self
      have lf := HL.out.lt List.mem_cons_self
      dsimp only at lf
      clear e0 e1 le
      obtain ⟨e0, e1⟩ := Held.two HL (List.mem_cons_of_mem _ List.mem_cons_self)
      have le := HL.out.lt (List.mem_cons_of_mem _ List.mem_cons_self)
      dsimp only at le
      clear d0 d1 ld
      obtain ⟨d0, d1⟩ := Held.two HL (List.mem_cons_of_mem _ (List.mem_cons_of_mem _ List.mem_cons_self))
      have ld := HL.out.lt (List.mem_cons_of_mem _ (List.mem_cons_of_mem _ List.mem_cons_self))
      dsimp only at ld
      clear c0 c1 lc
      obtain ⟨c0, c1⟩ := Held.two HL (List.mem_cons_of_mem _ (List.mem_cons_of_mem _ (List.mem_cons_of_mem _ List.mem_cons_self)))
      have lc := HL.out.lt (List.mem_cons_of_mem _ (List.mem_cons_of_mem _ (List.mem_cons_of_mem _ List.mem_cons_self)))
      dsimp only at lc
      go_wp2_with fail
      refine (eqConf_is m1 _ D1 m1 _ D1 _ (HD.out.alloc _) (HE.out.alloc _) true (by simp [eqC])).mono ?_
      rintro e w8 ⟨rfl, hn8⟩
      have HC := Lib.hid ((HC.out.alloc _).new hn8)
      have HF := Lib.hid ((HF.out.alloc _).new hn8)
      have HG := Lib.hid ((HG.out.alloc _).new hn8)
      have HL := Lib.hid ((HL.out.alloc _).new hn8)
      have HB := Lib.hid ((HB.out.alloc gA _).step hn8 (by simp; omega))
      have gA : w.heap.size ≤ w8.heap.size := by have := hn8.size; simp at this; omega
      clear hn8
      obtain ⟨g0, g1⟩ := Held.two HL List.mem_cons_self
      have lg := HL.out.lt List.mem_cons_self
      dsimp only at lg
      clear f0 f1 lf
      obtain ⟨f0, f1⟩ := Held.two HL (List.mem_cons_of_mem _ List.mem_cons_self)
      have lf := HL.out.lt (List.mem_cons_of_mem _ List.mem_cons_self)
      dsimp only at lf
      clear e0 e1 le
      obtain ⟨e0, e1⟩ := Held.two HL (List.mem_cons_of_mem _ (List.mem_cons_of_mem _ List.mem_cons_self))
      have le := HL.out.lt (List.mem_cons_of_mem _ (List.mem_cons_of_mem _ List.mem_cons_self))
      dsimp only at le
      clear d0 d1 ld
      obtain ⟨d0, d1⟩ := Held.two HL (List.mem_cons_of_mem _ (List.mem_cons_of_mem _ (List.mem_cons_of_mem _ List.mem_cons_self)))
      have ld := HL.out.lt (List.mem_cons_of_mem _ (List.mem_cons_of_mem _ (List.mem_cons_of_mem _ List.mem_cons_self)))
      dsimp only at ld
      clear c0 c1 lc
      obtain ⟨c0, c1⟩ := Held.two HL (List.mem_cons_of_mem _ (List.mem_cons_of_mem _ (List.mem_cons_of_mem _ (List.mem_cons_of_mem _ List.mem_cons_self))))
      have lc := HL.out.lt (List.mem_cons_of_mem _ (List.mem_cons_of_mem _ (List.mem_cons_of_mem _ (List.mem_cons_of_mem _ List.mem_cons_self))))
      dsimp only at lc
      go_wp2_with fail
      refine (eqConf_is m2 _ D2 m2 _ D2 _ HF.out HG.out true (by simp [eqC])).mono ?_
      rintro e V ⟨rfl, hn9⟩
      have HC := Lib.hid (HC.out.new hn9)
      have HL := Lib.hid (HL.out.new hn9)
      have HB := Lib.hid (HB.out.step hn9 (by omega))
      have gA : w.heap.size ≤ V.heap.size := by have := hn9.size; omega
      clear hn9 c0 c1 lc
      obtain ⟨c0, c1⟩ := Held.two HL (List.mem_cons_of_mem _ (List.mem_cons_of_mem _ (List.mem_cons_of_mem _ (List.mem_cons_of_mem _ List.mem_cons_self))))
      have lc := HL.out.lt (List.mem_cons_of_mem _ (List.mem_cons_of_mem _ (List.mem_cons_of_mem _ (List.mem_cons_of_mem _ List.mem_cons_self))))
      dsimp only at lc
      clear d0 d1 e0 e1 f0 f1 g0 ld le lf lg
      go_wp2_with fail
      have hk1 : New V V.drew := (New.refl V).drew
      cases m3 : mayC n t
      · have M3 := Lib.hid m3
        clear m3
        refine wp_plan (.take 0 (.eff 1 (.take 2 (.take 3 (.take 4 (.take 5 (.take 7 (.take 8 (.eff 6 (.eff 9 (.take 10 (.take 11 (.take 12 (.take 13 (.take 15 (.take 16 (.eff 14 (.eff 17 (.take 18 (.take 19 (.take 20 (.take 21 (.done))))))))))))))))))))))) (New V) (by kernel_rfl) (by kernel_rfl) hk1 ?_
        go_wp2_with (first
            | (go_at_call 8; refine (may_is n _ t _ (HC.out.new (by assumption)) false M3.out).mono ?_; rintro e w3 ⟨rfl, hn3⟩; have hkA := New.trans (by assumption) hn3; clear hn3; obtain ⟨q1, q2⟩ := New.cells hkA)
            | (refine q_skip rfl rfl rfl rfl rfl rfl ?_)
            | (refine q_eskip rfl rfl rfl rfl (by assumption) rfl rfl ?_)
            | (refine q_silent rfl rfl rfl rfl (fun K hK => ?_); conv => arg 2; whnf)
            | (refine q_load rfl rfl rfl rfl rfl (by assumption) lc (by first | exact c0 | exact c1) (fun K hK => ?_); conv => arg 2; whnf)
            | (refine q_int rfl rfl rfl rfl rfl rfl (fun K hK => ?_); conv => arg 2; whnf)
            | (refine q_bool rfl rfl rfl rfl rfl rfl (fun K hK => ?_); conv => arg 2; whnf)
            | (refine q_eff rfl rfl rfl (fun K hK => ?_); conv => arg 2; whnf)
            | (refine and_then (by assumption) (fun hk => ?_))
            | (refine q_done rfl ?_; dsimp only [NoPanic]))
        go_ret
        exact ⟨rfl, HB.out.step hkA gA⟩
      · have M3 := Lib.hid m3
        clear m3
        refine wp_plan (.take 0 (.eff 1 (.take 2 (.take 3 (.take 4 (.take 5 (.take 7 (.take 8 (.eff 6 (.eff 9 (.take 10 (.take 11 (.take 12 (.take 13 (.take 15 (.take 16 (.eff 14 (.eff 17 (.take 18 (.take 19 (.take 20 (.take 21 (.done))))))))))))))))))))))) (New V) (by kernel_rfl) (by kernel_rfl) hk1 ?_
        go_wp2_with (first
            | (go_at_call 8; refine (may_is n _ t _ (HC.out.new (by assumption)) true M3.out).mono ?_; rintro e w3 ⟨rfl, hn3⟩; have hkA := New.trans (by assumption) hn3; clear hn3; obtain ⟨q1, q2⟩ := New.cells hkA)
            | (go_at_call 21; refine (next_any n _ t x _ (HC.out.new (by assumption))).mono ?_; rintro e w3 ⟨rfl, hn3⟩; have hkA := New.trans (by assumption) hn3; clear hn3; obtain ⟨q1, q2⟩ := New.cells hkA)
            | (go_at_call 22; refine (nextOf_any n _ t x _ (HC.out.new (by assumption))).mono ?_; rintro e w3 ⟨rfl, hn3⟩; have hkA := New.trans (by assumption) hn3; clear hn3; obtain ⟨q1, q2⟩ := New.cells hkA)
            | (go_at_call 23; refine (prev_any n _ t x _ (HC.out.new (by assumption))).mono ?_; rintro e w3 ⟨rfl, hn3⟩; have hkA := New.trans (by assumption) hn3; clear hn3; obtain ⟨q1, q2⟩ := New.cells hkA)
            | (go_at_call 24; refine (prevOf_any n _ t x _ (HC.out.new (by assumption))).mono ?_; rintro e w3 ⟨rfl, hn3⟩; have hkA := New.trans (by assumption) hn3; clear hn3; obtain ⟨q1, q2⟩ := New.cells hkA)
            | (refine q_silent rfl rfl rfl rfl (fun K hK => ?_); conv => arg 2; whnf)
            | (refine q_load rfl rfl rfl rfl rfl (by assumption) lc (by first | exact c0 | exact c1) (fun K hK => ?_); conv => arg 2; whnf)
            | (refine q_int rfl rfl rfl rfl rfl rfl (fun K hK => ?_); conv => arg 2; whnf)
            | (refine q_bool rfl rfl rfl rfl rfl rfl (fun K hK => ?_); conv => arg 2; whnf)
            | (refine q_eff rfl rfl rfl (fun K hK => ?_); conv => arg 2; whnf)
            | (refine and_then (by assumption) (fun hk => ?_))
            | (refine q_done rfl ?_; dsimp only [NoPanic]))
        go_ret
        exact ⟨rfl, HB.out.step hkA gA⟩
end Go.Proofs.Ytbomebnonkcieaa
