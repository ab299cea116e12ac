import Derived.Test.YtbomebnonkcieaaL1
import Derived.Test.YtbomebnonkcieaaC14
import Derived.Test.YtbomebnonkcieaaD5
namespace Go.Mem
open Go.RowKit
theorem Sl.off {w w' : World} {v : Value} {n : Nat} {vs : List Value} (h : Sl w v n vs) (hs : ∀ g, v.ownBlock = some g → w'.heap[g]? = w.heap[g]?) : Sl w' v n vs := by
  obtain ⟨ao, cap, rfl, h1, h2, h3, h4⟩ := h
  refine ⟨ao, cap, rfl, h1, h2, fun hn => ?_, h4⟩
  obtain ⟨b, o, rfl, hr⟩ := h3 hn
  refine ⟨b, o, rfl, fun j u hu => ?_⟩
  have := hr j u hu
  rw [World.cell?_of_block (w := w) (hs b rfl)]
  exact this
end Go.Mem
namespace Go.Proofs.Ytbomebnonkcieaa
open Go.RowKit Go.Mem Go.Draw

/-! ### the plain law of ConfLast -/
theorem gate_of' {t : List Int} {x : Int} : decide (0 ≤ idx x t 0) = hasI t x := by
  have := idx_mem (x := x) t 0 (by omega)
  simp only [hasI]
  rw [Bool.eq_iff_iff]
  simpa using this
theorem rm_len {L : List Int} {x : Int} (h : hasI L x = true) : (rmI L x).length = L.length - 1 := by
  have h0 := (idx_mem (x := x) L 0 (by omega)).2 (by simpa [hasI] using h)
  have h1 := (idx_lt (x := x) L 0 (by omega)).2
  unfold rmI
  rw [List.length_eraseIdx, if_pos (by omega)]
theorem rm_may {m : Int} {L : List Int} {x : Int} (hc : mayC m L = true) (h : hasI L x = true) (hl : 1 < L.length) (hm : m < 1099511627776) : mayC (m + 1) (rmI L x) = true := by
  have hh := of_decide_eq_true hc
  have hl2 := rm_len h
  unfold mayC
  refine decide_eq_true ⟨by omega, by omega, by omega, by omega, fun y hy => hh.2.2.2.2.1 y (List.mem_of_mem_eraseIdx hy), hh.2.2.2.2.2.eraseIdx _⟩
theorem rm_gone {m : Int} {L : List Int} {x : Int} (hc : mayC m L = true) (h : hasI L x = true) : hasI (rmI L x) x = false := by
  have hd := (of_decide_eq_true hc).2.2.2.2.2
  have h0 := (idx_mem (x := x) L 0 (by omega)).2 (by simpa [hasI] using h)
  have hg := idx_get (x := x) L 0 (by omega) h0
  simp only [Int.sub_zero] at hg
  unfold hasI rmI
  rw [Bool.eq_false_iff]
  simp only [ne_eq, List.contains_iff_mem]
  intro hm
  obtain ⟨i, hne, hi⟩ := List.mem_eraseIdx_iff_getElem?.1 hm
  obtain ⟨h1, e1⟩ := List.getElem?_eq_some_iff.1 hg
  obtain ⟨h2, e2⟩ := List.getElem?_eq_some_iff.1 hi
  exact hne ((List.getElem_inj hd).1 (e2.trans e1.symm))
theorem rm_ok {m : Int} {L : List Int} {x : Int} (hc : mayC m L = true) (hm : m < 1099511627776) : rmOk m L x = (hasI L x && decide (1 < L.length)) := by
  unfold rmOk tOk
  rw [gate_of', hc]
  cases h : hasI L x
  · rfl
  · by_cases hl : 1 < L.length
    · rw [rm_may hc h hl hm]; simp [hl]
    · have : mayC (m + 1) (rmI L x) = false := (mayC_false (fun hh => by have := rm_len h; omega)).symm
      rw [this]; simp [hl]

/-- what holds ahead of each round -/
structure Inv (w : World) (cb : Nat) (k : Nat) (w' : World) where
  mk ::
  m : Int
  L : List Int
  ao : Option Addr
  cap : Nat
  h1 : mayC m L = true
  h2 : m ≤ 1 + k
  h3 : w'.heap[cb]? = some (.cells #[.int .i64 m, .slice ao L.length cap] 25 (0, 0))
  h4 : SlI w' (.slice ao L.length cap) L
  h5 : ∀ g, (Value.slice ao L.length cap).ownBlock = some g → g ≠ cb
  h6 : Below w.heap.size w w'

theorem Inv.keep {w : World} {cb k : Nat} {wr w' : World} (h : Nonempty (Inv w cb k wr)) (hn : New wr w') : Nonempty (Inv w cb (k + 1) w') := by
  obtain ⟨h⟩ := h
  exact ⟨h.m, h.L, h.ao, h.cap, h.h1, by have := h.h2; omega, (hn.block _ (Array.getElem?_eq_some_iff.1 h.h3).1).trans h.h3, h.h4.new hn, h.h5, h.h6.step hn h.h6.size⟩
theorem withoutO_is (n : Int) (v : Value) (l : List Int) (x : Int) (w : World) (h : SlI w v l) (hl : l.length ≤ 1000000) (b : Bool) (ok : rmOk n l x = b) (N : Int) (hN : (if b then n + 1 else 0) = N) (D : List Int) (hD : (if b then rmI l x else []) = D) :
    Calls Try.prog 18 #[.agg #[.int .i64 n, v], .int .i64 x] w fun e w' => ∃ ao cap, e = .returned (.tuple #[.agg #[.int .i64 N, .slice ao D.length cap], .bool b]) ∧
      Hid (w'.ownsRow w.heap.size 3 1 (.slice ao D.length cap) D.length (D.map (Value.int .i64))) ∧ New w w' := by
  refine (withoutO_any n v l x w h hl).mono ?_
  rintro e w' ⟨m, u, rfl, rfl, hs, hn⟩
  rw [ok, hD] at hs
  rw [ok, hN]
  obtain ⟨ao, cap, rfl⟩ := owns_shape hs
  exact ⟨ao, cap, rfl, hs, hn⟩

set_option maxHeartbeats 1600000 in
theorem confLast_yes (v : Value) (l : List Int) (w : World) (h : SlI w v l) :
    Calls Try.prog 6 #[v] w fun e w' => e = .returned (.bool true) ∧ New w w' := by
  obtain ⟨ao, cap, rfl, hc, hm, hao, hx⟩ := h.open
  clear h
  go_enter Try.func6, Try.ntmps6
  go_wp2_with fail
  refine (begun_yes _).mono ?_
  rintro e w1 ⟨rfl, hn1⟩
  have HN := Lib.hid hn1
  have g1 := hn1.size
  clear hn1
  go_wp2_with fail
  obtain ⟨W, hW⟩ : ∃ W, W = (w1.alloc (.cells #[.int .i64 4, .int .i64 2, .int .i64 5, .int .i64 1, .int .i64 3] 3)).alloc (.cells #[.int .i64 1, .slice (some ⟨w1.heap.size, 0, none⟩) 5 5] 25) := ⟨_, rfl⟩
  have HI : Hid (Nonempty (Inv w (w1.heap.size + 1) 0 W)) := by
    subst hW
    refine ⟨1, [4, 2, 5, 1, 3], some ⟨w1.heap.size, 0, none⟩, 5, by decide, by decide, by simpa using heap_alloc_new (w1.alloc _) _, (Sl.of_block (heap_alloc_new _ _) rfl (by decide)).alloc _, fun g hg => by cases hg; simp, ?_⟩
    exact (HN.out.alloc g1 _).alloc (by simp; omega) _
  rw [← hW]
  clear hW
  go_loopw [5] (fun i w' => ∃ k : Nat, k ≤ l.length ∧ k ≤ 20 ∧ i = .int .i64 k ∧ Hid (Nonempty (Inv w (w1.heap.size + 1) k w'))) (fun i _ => l.length - (intOf i).toNat)
  case atStart => exact ⟨0, Nat.zero_le _, by omega, rfl, HI⟩
  case round =>
    rename_i wr
    obtain ⟨k, hk, hk20, rfl, hInv⟩ := hrel
    obtain ⟨m, L, aoL, capL, i1, i2, i3, i4, i5, i6⟩ := hInv.out
    have I1 := Lib.hid i1
    have I3 := Lib.hid i3
    have I4 := Lib.hid i4
    have I5 := Lib.hid i5
    have I6 := Lib.hid i6
    have c0 : wr.cell? ⟨w1.heap.size + 1, 0, none⟩ = some (.int .i64 m) := cell_of_row _ _ _ _ _ _ i3
    have c1 : wr.cell? ⟨w1.heap.size + 1, 1, none⟩ = some (.slice aoL L.length capL) := cell_of_row _ _ _ _ _ _ i3
    have lc : w1.heap.size + 1 < wr.heap.size := (Array.getElem?_eq_some_iff.1 i3).1
    have hbd := mayC_bd i1
    have hll : 1 ≤ L.length ∧ L.length ≤ 5 := ⟨(of_decide_eq_true i1).2.2.1, (of_decide_eq_true i1).2.2.2.1⟩
    obtain ⟨hll1, hll2⟩ := hll
    have HI' := hInv
    clear i1 i3 i4 i5 i6 hInv
    by_cases hgo : k < l.length ∧ k < 20
    · obtain ⟨hlt, hlt2⟩ := hgo
      obtain ⟨b, o, y, rfl, hck, hy⟩ := hx.out k hlt
      have hblk := World.block_lt_of_cell? w _ hck
      have hck2 : wr.cell? ⟨b, o + k, none⟩ = some (.int .i64 y) := (Below.cell I6.out (p := ⟨b, o + k, none⟩) hblk).trans hck
      have hk0 : (0 : Int) ≤ (k : Int) := by omega
      have hk1 : (k : Int) < (l.length : Int) := by omega
      go_wp2_with fail
      generalize hx0 : wrap64 (1 + (wrap64 (y.tmod 5 + 5)).tmod 5) = x
      clear hx0
      have hrk := rm_ok (x := x) I1.out (by omega)
      have k7 : IntKind.i64.wrap ((k : Int) + 1) = (k : Int) + 1 := by rw [IntKind.wrap_i64]; omega
      cases hb : hasI L x
      · rw [hb] at hrk
        have HRK := Lib.hid hrk
        have HB0 := Lib.hid hb
        clear hrk hb
        refine (withoutO_is m _ L x _ I4.out (by omega) false HRK.out 0 rfl [] rfl).mono ?_
        rintro e w4 ⟨ao4, cap4, rfl, HO4, hn4⟩
        have c2 : w4.cell? ⟨w1.heap.size + 1, 0, none⟩ = some (.int .i64 m) := (Below.cell hn4 (p := ⟨_, _, none⟩) lc).trans c0
        have c3 : w4.cell? ⟨w1.heap.size + 1, 1, none⟩ = some (.slice aoL L.length capL) := (Below.cell hn4 (p := ⟨_, _, none⟩) lc).trans c1
        have lc4 : w1.heap.size + 1 < w4.heap.size := by have := hn4.size; omega
        have HN4 := Lib.hid hn4
        clear hn4
        go_wp2_with fail
        refine (has_is m _ L x _ ((I4.out.new HN4.out).alloc _) false HB0.out).mono ?_
        rintro e w5 ⟨rfl, hn5⟩
        have HN5 : Hid (New wr w5) := (HN4.out.alloc (by have := HN4.out.size; omega) _).step hn5 (by have := HN4.out.size; simp; omega)
        clear hn5
        go_wp2_with fail
        go_roundw
        case rel => exact ⟨k + 1, by omega, by omega, by go_num, Inv.keep HI'.out HN5.out⟩
        case measure => simp [intOf]; omega
      · rw [hb, Bool.true_and] at hrk
        by_cases hl : 1 < L.length
        · have hrk2 : rmOk m L x = true := by rw [hrk]; simpa using hl
          have HLEN := Lib.hid (rm_len hb)
          have HMAY := Lib.hid (rm_may I1.out hb hl (by omega))
          have HGONE := Lib.hid (rm_gone I1.out hb)
          have HB1 := Lib.hid hb
          obtain ⟨D, hD⟩ : ∃ D, D = rmI L x := ⟨_, rfl⟩
          rw [← hD] at HLEN HMAY HGONE
          have HRK := Lib.hid hrk2
          have HD := Lib.hid hD
          have hw1 : IntKind.i64.wrap ((L.length : Int) - 1) = (L.length : Int) - 1 := by rw [IntKind.wrap_i64]; omega
          have hw2 : IntKind.i64.wrap (m + 1) = m + 1 := by rw [IntKind.wrap_i64]; omega
          have hne : ((D.length : Int) != (L.length : Int) - 1) = false := by
            have := HLEN.out
            simp; omega
          clear hrk hrk2 hb hD
          refine (withoutO_is m _ L x _ I4.out (by omega) true HRK.out (m + 1) rfl D HD.out.symm).mono ?_
          rintro e w4 ⟨ao4, cap4, rfl, HO4, hn4⟩
          have hcb4 := (hn4.block _ lc).trans I3.out
          have c2 : w4.cell? ⟨w1.heap.size + 1, 0, none⟩ = some (.int .i64 m) := (Below.cell hn4 (p := ⟨_, _, none⟩) lc).trans c0
          have c3 : w4.cell? ⟨w1.heap.size + 1, 1, none⟩ = some (.slice aoL L.length capL) := (Below.cell hn4 (p := ⟨_, _, none⟩) lc).trans c1
          have lc4 : w1.heap.size + 1 < w4.heap.size := by have := hn4.size; omega
          have HN4 := Lib.hid hn4
          have HCB4 := Lib.hid hcb4
          clear hn4 hcb4
          go_wp2_with fail
          refine (has_is m _ L x _ ((I4.out.new HN4.out).alloc _) true HB1.out).mono ?_
          rintro e w5 ⟨rfl, hn5⟩
          have HO5 := Lib.hid (owns_new (owns_new HO4.out ((Below.refl _ _).alloc (Nat.le_refl _) (.cells #[.int .i64 (m + 1), .slice ao4 D.length cap4] 25))) hn5)
          have HL5 : Hid (Held [(w4.heap.size, .cells #[.int .i64 (m + 1), .slice ao4 D.length cap4] 25), (w1.heap.size + 1, .cells #[.int .i64 m, .slice aoL L.length capL] 25)] w5) := by
            refine Held.new (Held.alloc ?_ _) hn5
            intro z hz
            simp only [List.mem_singleton] at hz
            subst hz
            exact HCB4.out
          have HN5 : Hid (New wr w5) := (HN4.out.alloc (by have := HN4.out.size; omega) _).step hn5 (by have := HN4.out.size; simp; omega)
          clear hn5
          obtain ⟨d0, d1⟩ := Held.two HL5 List.mem_cons_self
          obtain ⟨c4, c5⟩ := Held.two HL5 (List.mem_cons_of_mem _ List.mem_cons_self)
          go_wp2_with fail
          refine (has_is (m + 1) _ D x _ (SlI.of_owns HO5.out rfl (by have := HLEN.out; omega)) false HGONE.out).mono ?_
          rintro e w6 ⟨rfl, hn6⟩
          have HO6 := Lib.hid (owns_new HO5.out hn6)
          have HL6 := Lib.hid (HL5.out.new hn6)
          have HN6 : Hid (New wr w6) := New.trans HN5.out hn6
          clear hn6
          obtain ⟨d2, d3⟩ := Held.two HL6 List.mem_cons_self
          obtain ⟨c6, c7⟩ := Held.two HL6 (List.mem_cons_of_mem _ List.mem_cons_self)
          have HCB6 := Lib.hid (HL6.out _ (List.mem_cons_of_mem _ List.mem_cons_self))
          have f6 : ∀ o, w6.frozen? ⟨w1.heap.size + 1, o, none⟩ = false := fun o => by have := HCB6.out; dsimp only at this; simp [World.frozen?, this]
          go_wp2_with fail
          go_roundw
          case rel =>
            refine ⟨k + 1, by omega, by omega, by go_num, ⟨m + 1, D, ao4, cap4, HMAY.out, by omega, heap_set2 HCB6.out _ _, ?_, ?_, ?_⟩⟩
            · refine Sl.off (SlI.of_owns HO6.out rfl (by have := HLEN.out; omega)) fun g hg => ?_
              have := (HO6.out.lt g hg).1
              rw [Below.heap_setCell _ _ _ _ (by simp; omega), Below.heap_setCell _ _ _ _ (by simp; omega)]
            · intro g hg
              have := (HO6.out.lt g hg).1
              omega
            · have b1 := I6.out.step HN6.out I6.out.size
              exact (b1.setCell (by simp; omega) _).setCell (by simp; omega) _
          case measure => simp [intOf]; omega
        · have hrk2 : rmOk m L x = false := by rw [hrk]; simpa using hl
          have HRK := Lib.hid hrk2
          have HB1 := Lib.hid hb
          clear hrk hrk2 hb
          refine (withoutO_is m _ L x _ I4.out (by omega) false HRK.out 0 rfl [] rfl).mono ?_
          rintro e w4 ⟨ao4, cap4, rfl, HO4, hn4⟩
          have c2 : w4.cell? ⟨w1.heap.size + 1, 0, none⟩ = some (.int .i64 m) := (Below.cell hn4 (p := ⟨_, _, none⟩) lc).trans c0
          have c3 : w4.cell? ⟨w1.heap.size + 1, 1, none⟩ = some (.slice aoL L.length capL) := (Below.cell hn4 (p := ⟨_, _, none⟩) lc).trans c1
          have lc4 : w1.heap.size + 1 < w4.heap.size := by have := hn4.size; omega
          have HN4 := Lib.hid hn4
          clear hn4
          go_wp2_with fail
          refine (has_is m _ L x _ ((I4.out.new HN4.out).alloc _) true HB1.out).mono ?_
          rintro e w5 ⟨rfl, hn5⟩
          have c4 : w5.cell? ⟨w1.heap.size + 1, 1, none⟩ = some (.slice aoL L.length capL) := (Below.cell hn5 (p := ⟨_, _, none⟩) (by simp; omega)).trans (by rw [World.cell?_alloc_past _ _ _ (by exact lc4)]; exact c3)
          have HN5 : Hid (New wr w5) := (HN4.out.alloc (by have := HN4.out.size; omega) _).step hn5 (by have := HN4.out.size; simp; omega)
          clear hn5
          go_wp2_with fail
          go_roundw
          case rel => exact ⟨k + 1, by omega, by omega, by go_num, Inv.keep HI'.out HN5.out⟩
          case measure => simp [intOf]; omega
    · obtain ⟨_, _, he, _, _, _, hxL⟩ := I4.out.open
      cases he
      obtain ⟨b, o, y0, rfl, hck0, hy0⟩ := hxL.out 0 (by omega)
      obtain ⟨b2, o2, z, he2, hck2, hz2⟩ := hxL.out (L.length - 1) (by omega)
      cases he2
      have HY0 : Hid (hasI L y0 = true) := by show L.contains y0 = true; simpa using mem_of_get hy0.out
      have HZ : Hid (hasI L z = true) := by show L.contains z = true; simpa using mem_of_get hz2.out
      have HT : Hid (getI L ((L.length : Int) - 1) = z) := by
        have e : (L.length : Int) - 1 = ((L.length - 1 : Nat) : Int) := by omega
        show getI L _ = z
        rw [e]; exact getI_at hz2.out
      have hnr : New wr wr.drew := (New.refl wr).drew
      clear hck0 hck2 hxL hbd
      by_cases hlt : k < l.length
      · have hk20' : ¬ k < 20 := fun h => hgo ⟨hlt, h⟩
        have hk20i : ¬ (k : Int) < 20 := by omega
        clear hgo hk20
        go_wp2_with fail
        refine wp_plan (.take 0 (.eff 1 (.take 2 (.take 3 (.take 4 (.eff 5 (.eff 6 (.take 7 (.take 8 (.take 9 (.take 10 (.eff 11 (.eff 12 (.take 13 (.take 14 (.done)))))))))))))))) (New wr) (by kernel_rfl) (by kernel_rfl) hnr ?_
        go_wp2_with (first
          | (go_at_call 8; refine (may_is m _ L _ (I4.out.new (by assumption)) true I1.out).mono ?_; rintro e w5 ⟨rfl, hn5⟩; have hkA := New.trans (by assumption) hn5; clear hn5; obtain ⟨q1, q2⟩ := New.cells hkA)
          | (go_at_call 12; refine (head_is m _ L _ (I4.out.new (by assumption)) y0 (getI_at hy0.out)).mono ?_; rintro e w5 ⟨rfl, hn5⟩; have hkA := New.trans (by assumption) hn5; clear hn5; obtain ⟨q1, q2⟩ := New.cells hkA)
          | (go_at_call 10; refine (has_is m _ L y0 _ (I4.out.new (by assumption)) true HY0.out).mono ?_; rintro e w5 ⟨rfl, hn5⟩; have hkA := New.trans (by assumption) hn5; clear hn5; obtain ⟨q1, q2⟩ := New.cells hkA)
          | (go_at_call 14; refine (tail_is m _ L _ (I4.out.new (by assumption)) z HT.out).mono ?_; rintro e w5 ⟨rfl, hn5⟩; have hkA := New.trans (by assumption) hn5; clear hn5; obtain ⟨q1, q2⟩ := New.cells hkA)
          | (go_at_call 10; refine (has_is m _ L z _ (I4.out.new (by assumption)) true HZ.out).mono ?_; rintro e w5 ⟨rfl, hn5⟩; have hkA := New.trans (by assumption) hn5; clear hn5; obtain ⟨q1, q2⟩ := New.cells hkA)
          | (refine q_silent rfl rfl rfl rfl (fun K hK => ?_); conv => arg 2; whnf)
          | (refine q_load rfl rfl rfl rfl rfl (by assumption) lc (by first | exact c0 | exact c1) (fun K hK => ?_); conv => arg 2; whnf)
          | (refine q_eff rfl rfl rfl (fun K hK => ?_); conv => arg 2; whnf)
          | (refine and_then (by assumption) (fun hk => ?_))
          | (refine q_done rfl ?_; dsimp only [NoPanic]))
        go_ret
        exact ⟨rfl, I6.out.step hkA I6.out.size⟩
      · clear hgo
        go_wp2_with fail
        refine wp_plan (.take 0 (.eff 1 (.take 2 (.take 3 (.take 4 (.eff 5 (.eff 6 (.take 7 (.take 8 (.take 9 (.take 10 (.eff 11 (.eff 12 (.take 13 (.take 14 (.done)))))))))))))))) (New wr) (by kernel_rfl) (by kernel_rfl) hnr ?_
        go_wp2_with (first
          | (go_at_call 8; refine (may_is m _ L _ (I4.out.new (by assumption)) true I1.out).mono ?_; rintro e w5 ⟨rfl, hn5⟩; have hkA := New.trans (by assumption) hn5; clear hn5; obtain ⟨q1, q2⟩ := New.cells hkA)
          | (go_at_call 12; refine (head_is m _ L _ (I4.out.new (by assumption)) y0 (getI_at hy0.out)).mono ?_; rintro e w5 ⟨rfl, hn5⟩; have hkA := New.trans (by assumption) hn5; clear hn5; obtain ⟨q1, q2⟩ := New.cells hkA)
          | (go_at_call 10; refine (has_is m _ L y0 _ (I4.out.new (by assumption)) true HY0.out).mono ?_; rintro e w5 ⟨rfl, hn5⟩; have hkA := New.trans (by assumption) hn5; clear hn5; obtain ⟨q1, q2⟩ := New.cells hkA)
          | (go_at_call 14; refine (tail_is m _ L _ (I4.out.new (by assumption)) z HT.out).mono ?_; rintro e w5 ⟨rfl, hn5⟩; have hkA := New.trans (by assumption) hn5; clear hn5; obtain ⟨q1, q2⟩ := New.cells hkA)
          | (go_at_call 10; refine (has_is m _ L z _ (I4.out.new (by assumption)) true HZ.out).mono ?_; rintro e w5 ⟨rfl, hn5⟩; have hkA := New.trans (by assumption) hn5; clear hn5; obtain ⟨q1, q2⟩ := New.cells hkA)
          | (refine q_silent rfl rfl rfl rfl (fun K hK => ?_); conv => arg 2; whnf)
          | (refine q_load rfl rfl rfl rfl rfl (by assumption) lc (by first | exact c0 | exact c1) (fun K hK => ?_); conv => arg 2; whnf)
          | (refine q_eff rfl rfl rfl (fun K hK => ?_); conv => arg 2; whnf)
          | (refine and_then (by assumption) (fun hk => ?_))
          | (refine q_done rfl ?_; dsimp only [NoPanic]))
        go_ret
        exact ⟨rfl, I6.out.step hkA I6.out.size⟩
end Go.Proofs.Ytbomebnonkcieaa
