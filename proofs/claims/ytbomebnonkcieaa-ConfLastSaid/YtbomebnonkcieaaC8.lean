import Derived.Test.YtbomebnonkcieaaC7
import Derived.Test.YtbomebnonkcieaaD3
import Derived.Deep.AppendLies
namespace Go.Proofs.Ytbomebnonkcieaa
open Go.RowKit Go.Mem Go.Draw

/-- what With, Without tell -/
def ConfR (w : World) (b : Bool) (n : Int) (l : List Int) (e : Ending) (w' : World) : Prop :=
  ∃ m u, e = .returned (.tuple #[.agg #[.int .i64 m, u], .bool b]) ∧ m = (if b then n + 1 else 0) ∧ SlI w' u (if b then l else []) ∧ New w w'

theorem turned_any (n : Int) (v v' : Value) (l l' : List Int) (w : World) (h : SlI w v l) (h' : SlI w v' l') :
    Calls Try.prog 27 #[.agg #[.int .i64 n, v], v'] w fun e w' => ∃ m ao k cap, e = .returned (.tuple #[.agg #[.int .i64 m, .slice ao k cap], .bool (tOk n l l')]) ∧
      Hid (m = if tOk n l l' then n + 1 else 0) ∧ Hid (.slice ao k cap = if tOk n l l' then v' else .slice none 0 0) ∧ New w w' := by
  obtain ⟨ao', cap', rfl⟩ := h'.agg
  cases ok : tOk n l l'
  · refine (turned_no n v _ l l' w h h' ok).mono ?_
    rintro e w' ⟨rfl, hn⟩
    exact ⟨0, none, 0, 0, rfl, by simp [Hid], by simp [Hid], hn⟩
  · refine (turned_yes n v _ l l' w h h' ok).mono ?_
    rintro e w' ⟨rfl, hn⟩
    exact ⟨n + 1, ao', l'.length, cap', rfl, by simp [Hid], by simp [Hid], hn⟩

set_option maxHeartbeats 800000 in
theorem with_any (n : Int) (v : Value) (l : List Int) (x : Int) (w : World) (h : SlI w v l) (hl : l.length ≤ 1000000) :
    Calls Try.prog 16 #[.agg #[.int .i64 n, v], .int .i64 x] w (ConfR w (tOk n l (l ++ [x])) n (l ++ [x])) := by
  obtain ⟨i0, hi0, hz0, hz1, hz2⟩ := info_parts Try.info3
  obtain ⟨ao, cap, rfl⟩ := h.agg
  have H := Lib.hid h
  clear h
  go_enter Try.func16, Try.ntmps16
  go_wp2_with fail
  obtain ⟨W, hW⟩ : ∃ W, W = (w.alloc (.cells #[.int .i64 n, .slice ao l.length cap] 25)).alloc (.cells #[.int .i64 0, .slice none 0 0] 25) := ⟨_, rfl⟩
  have a0 : W.cell? ⟨w.heap.size, 0, none⟩ = some (.int .i64 n) := by subst hW; simp [go_sem]
  have a1 : W.cell? ⟨w.heap.size, 1, none⟩ = some (.slice ao l.length cap) := by subst hW; simp [go_sem]
  have HW : Hid (SlI W (.slice ao l.length cap) l) := by subst hW; exact (H.out.alloc _).alloc _
  have HN : Hid (New w W) := by subst hW; exact ((Below.refl _ _).alloc (Nat.le_refl _) _).alloc (by simp) _
  have hz : w.heap.size + 2 ≤ W.heap.size := by subst hW; simp
  have l0 : w.heap.size < w.heap.size + 2 := by omega
  have HR : Hid (Row W (w.heap.size + 1) 2) := by subst hW; exact Row.of (cs := #[.int .i64 0, .slice none 0 0]) (heap_alloc2_new _ _ _)
  rw [← hW]
  clear hW
  have hk : Keep (w.heap.size + 2) [(w.heap.size + 1, 2)] W W.drew := (Keep.refl hz (by simpa using HR.out)).drew
  refine wp_plan (.take 0 (.take 1 (.take 2 (.take 4 (.eff2 3 5 (.eff 5 (.eff 6 (.eff 7 (.take 8 (.take 9 (.eff 10 (.take 11 (.done)))))))) (.eff 3 (.eff 6 (.eff 7 (.take 8 (.take 9 (.eff 10 (.take 11 (.done))))))))))))) (Keep (w.heap.size + 2) [(w.heap.size + 1, 2)] W) (by kernel_rfl) (by kernel_rfl) hk ?_
  go_wp2_with (first
    | (go_at_call 28; refine (clone_any _ l _ (H.out.same (Keep.old (by assumption) HN.out (by omega) (by simp))) (by omega) (w.heap.size + 2) (Keep.le (by assumption) (by omega))).mono ?_; rintro e w2 ⟨v2, rfl, hO, hN2⟩)
    | (go_at_call 27; refine (turned_any n _ (.slice ao4 _ cap4) l (l ++ [x]) _ (H.out.same (Keep.old (by assumption) HN.out (by omega) (by simp))) (SlI.of_owns hO4.out (by simp) (by simp; omega))).mono ?_; rintro e w5 ⟨m5, ao5, k5, cap5, rfl, hm5, hu5, hN5⟩; have hk5 : Keep (w.heap.size + 2) [(w.heap.size + 1, 2)] W w5 := Keep.new (by assumption) hN5; have hr5 := hk5.row (b := w.heap.size + 1) (n := 2) (by simp); obtain ⟨u0, hu0⟩ := hr5.cell 0 (by omega); obtain ⟨u1, hu1⟩ := hr5.cell 1 (by omega); have f0 := hr5.free 0; have f1 := hr5.free 1; clear hr5)
    | (refine take_silent rfl rfl rfl (fun K hK => ?_); conv => arg 2; whnf)
    | (refine take_fieldAddr rfl rfl (by kernel_rfl) rfl (fun K hK => ?_); conv => arg 2; whnf)
    | (refine take_load' rfl rfl rfl rfl (by assumption) l0 (by simp) (by first | exact a0 | exact a1) (fun K hK => ?_); conv => arg 2; whnf)
    | (refine take_int rfl rfl rfl rfl rfl (fun K hK => ?_); conv => arg 2; whnf)
    | (refine take_bool rfl rfl rfl rfl rfl (fun K hK => ?_); conv => arg 2; whnf)
    | (refine take_len rfl rfl rfl rfl (fun K hK => ?_); conv => arg 2; whnf)
    | (refine eff_append_keep (i := 6) rfl rfl (.tmp 9) (.tmp 11) 22 rfl (w.heap.size + 2) 3 i0 (.int .i64 0) 1 8 Try.underlying22 hi0 hz0 hz1 hz2 rfl (by decide) v2 l.length (l.map (Value.int .i64)) rfl
        (by first | exact hO.out.alloc _ | exact hO.out) _ 1 1 [.int .i64 x] rfl rfl (by first | exact World.news_of_block (cs := #[.int .i64 x]) (heap_alloc_new _ _) | exact World.news_of_block (cs := #[.int .i64 x]) ((hN2.block _ (by simp)).trans (heap_alloc_new _ _))) (by simp [Value.oneCell']) (by unfold maxLen; omega) (by omega)
        (Keep.le (by assumption) (by omega)) (by assumption) (by omega) ?_; intro v4 w4 hO4' hG4' hk4; obtain ⟨ao4, cap4, rfl⟩ := owns_shape hO4'; have hO4 := Lib.hid hO4'; clear hO4'; have hG4 := Lib.hid hG4'; clear hG4')
    | (refine eff_two ?_ ?_)
    | (refine eff_one rfl rfl (fun K hK => ?_); conv => arg 2; whnf)
    | (refine and_then (by assumption) (fun hk => ?_))
    | (refine and_then (Keep.new (by assumption) (by assumption)) (fun hk => ?_))
    | (refine and_then (Keep.alloc (by assumption) _) (fun hk => ?_))
    | (refine and_then (Keep.setCell (Keep.setCell (by assumption) _ (by simp)) _ (by simp)) (fun hk => ?_))
    | (refine plan_done ?_))
  all_goals
    refine bodyPost_ret (v := .tuple #[.agg #[.int .i64 m5, .slice ao5 k5 cap5], .bool (tOk n l (l ++ [x]))]) (by simp [results, Try.results16, go_sem, *]) rfl ⟨_, _, rfl, hm5.out, ?_, ?_⟩
    · rw [hu5.out]
      split
      · refine SlI.of_owns (ownsRow_setCell_below (ownsRow_setCell_below (owns_new hO4.out hN5) ?_ _) ?_ _) (by simp) (by simp; omega)
        · show w.heap.size + 1 < w.heap.size + 2; omega
        · show w.heap.size + 1 < w.heap.size + 2; omega
      · exact Sl.nil _
    · have b1 : Below w.heap.size w W.drew := HN.out.drew
      first
        | exact ((((((b1.step hN2 (by simp; omega)).alloc (by have := hN2.size; simp at this; omega) _).grown hG4.out (by have := hN2.size; simp at this ⊢; omega) (fun g hg => by have := (hO.out.lt g hg).1; omega)).step hN5 (by have := hG4.out.size; have := hN2.size; simp at *; omega))).setCell (by simp) _).setCell (by simp) _
        | exact ((((((b1.alloc (by simp; omega) _).step hN2 (by simp; omega))).grown hG4.out (by have := hN2.size; simp at this ⊢; omega) (fun g hg => by have := (hO.out.lt g hg).1; omega)).step hN5 (by have := hG4.out.size; have := hN2.size; simp at *; omega)).setCell (by simp) _).setCell (by simp) _
end Go.Proofs.Ytbomebnonkcieaa
