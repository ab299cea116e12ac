import Derived.Test.YtbomebnonkcieaaC8
namespace Go.Proofs.Ytbomebnonkcieaa
open Go.RowKit Go.Mem Go.Draw

/-- the list without it -/
def rmI (l : List Int) (x : Int) : List Int := l.eraseIdx (idx x l 0).toNat
def rmOk (n : Int) (l : List Int) (x : Int) : Bool := decide (0 ≤ idx x l 0) && tOk n l (rmI l x)

set_option maxHeartbeats 800000 in
theorem without_none (n : Int) (v : Value) (l : List Int) (x : Int) (w : World) (h : SlI w v l) (hi : idx x l 0 < 0) :
    Calls Try.prog 18 #[.agg #[.int .i64 n, v], .int .i64 x] w (ConfR w false n (rmI l x)) := by
  obtain ⟨ao, cap, rfl⟩ := h.agg
  have H := Lib.hid h
  clear h
  have t0 : decide (idx x l 0 < 0) = true := by simpa using hi
  go_enter Try.func18, Try.ntmps18
  go_wp2_with fail
  refine (index_any _ l x _ ((H.out.alloc _).alloc _)).mono ?_
  rintro e w1 ⟨rfl, rfl⟩
  go_wp2_with fail
  refine bodyPost_ret (v := .tuple #[.agg #[.int .i64 0, .slice none 0 0], .bool false]) (by simp [results, Try.results18, go_sem, *]) rfl ⟨0, _, rfl, by simp, Sl.nil _, ?_⟩
  exact ((Below.refl _ _).alloc (Nat.le_refl _) _).alloc (by simp) _
theorem owns_del {w : World} {base g n cap k : Nat} {l : List Int} (hD : ∃ cur' : Array Value, w.heap[g]? = some (.cells cur' 3 (0, 0)) ∧ cur'.size = cap ∧ cur'.toList.take (n-1) = (l.map (Value.int .i64)).eraseIdx k)
    (hb : base ≤ g) (hn : l.length = n) (hk : k < n) (hc : n ≤ cap) (hm : cap ≤ maxLen) : w.ownsRow base 3 1 (.slice (some ⟨g, 0, none⟩) (n-1) cap) (n-1) ((l.eraseIdx k).map (Value.int .i64)) := by
  obtain ⟨cur', h1, h2, h3⟩ := hD
  refine ⟨by simp [List.length_eraseIdx, hn, hk], .inr ⟨g, cap, cur', rfl, hb, h1, by omega, hm, by omega, ?_⟩⟩
  rw [Nat.mul_one, h3]
  simp [List.eraseIdx_eq_take_drop_succ, List.map_take, List.map_drop]

set_option maxHeartbeats 800000 in
theorem without_some (n : Int) (v : Value) (l : List Int) (x : Int) (w : World) (h : SlI w v l) (hl : l.length ≤ 1000000) (k : Nat) (hik : idx x l 0 = k) :
    Calls Try.prog 18 #[.agg #[.int .i64 n, v], .int .i64 x] w (ConfR w (tOk n l (rmI l x)) n (rmI l x)) := by
  have hkl : k < l.length := by have := (idx_lt (x := x) l 0 (by omega)).2; omega
  have hrm : rmI l x = l.eraseIdx k := by simp [rmI, hik]
  rw [hrm]
  obtain ⟨ao, cap, rfl⟩ := h.agg
  have H := Lib.hid h
  have HIK := Lib.hid hik
  clear h hrm
  have t0 : decide ((k : Int) < 0) = false := by simp
  go_enter Try.func18, Try.ntmps18
  go_wp2_with fail
  refine (index_any _ l x _ ((H.out.alloc _).alloc _)).mono ?_
  rw [hik]
  clear hik
  rintro e w1 ⟨rfl, rfl⟩
  go_wp2_with fail
  obtain ⟨W, hW⟩ : ∃ W, W = (w.alloc (.cells #[.int .i64 n, .slice ao l.length cap] 25)).alloc (.cells #[.int .i64 0, .slice none 0 0] 25) := ⟨_, rfl⟩
  have a0 : W.cell? ⟨w.heap.size, 0, none⟩ = some (.int .i64 n) := by subst hW; simp [go_sem]
  have a1 : W.cell? ⟨w.heap.size, 1, none⟩ = some (.slice ao l.length cap) := by subst hW; simp [go_sem]
  have HW : Hid (SlI W (.slice ao l.length cap) l) := by subst hW; exact (H.out.alloc _).alloc _
  have HN : Hid (New w W) := by subst hW; exact ((Below.refl _ _).alloc (Nat.le_refl _) _).alloc (by simp) _
  have hz : w.heap.size + 2 ≤ W.heap.size := by subst hW; simp
  have l0 : w.heap.size < w.heap.size + 2 := by omega
  have HR : Hid (Row W (w.heap.size + 1) 2) := by subst hW; exact Row.of (cs := #[.int .i64 0, .slice none 0 0]) (heap_alloc2_new _ _ _)
  rw [← hW]
  clear hW
  have hk1 : Keep (w.heap.size + 2) [(w.heap.size + 1, 2)] W W.drew := (Keep.refl hz (by simpa using HR.out)).drew
  refine wp_plan (.take 0 (.take 1 (.take 2 (.take 4 (.take 5 (.take 6 (.eff 3 (.eff 7 (.eff 8 (.take 9 (.take 10 (.eff 11 (.take 12 (.done)))))))))))))) (Keep (w.heap.size + 2) [(w.heap.size + 1, 2)] W) (by kernel_rfl) (by kernel_rfl) hk1 ?_
  go_wp2_with (first
    | (go_at_call 28; refine (clone_any _ l _ (H.out.same (Keep.old (by assumption) HN.out (by omega) (by simp))) (by omega) (w.heap.size + 2) (Keep.le (by assumption) (by omega))).mono ?_; rintro e w2 ⟨v2, rfl, hO, hN2⟩; obtain ⟨g, cap2, cur, hv2, hg, hg2, hg3, hg4, hg5⟩ := hO.out.2.resolve_left (by rintro ⟨_, h0⟩; omega); subst hv2; have HO := Lib.hid hO.out; have HG := Lib.hid (And.intro hg (And.intro hg2 (And.intro hg3 (And.intro hg4 hg5)))); clear hO hg hg2 hg3 hg4 hg5; have HK2 : Hid (Keep (w.heap.size + 2) [(w.heap.size + 1, 2)] W w2) := Keep.new (by assumption) hN2)
    | (go_at_call 30; go_must (refine (delete_any g l.length cap2 k cur (l.map (Value.int .i64)) _ HG.out.2.1 HG.out.2.2.1 (by have := HG.out.2.2.2.2.1; omega) (by have := HG.out.2.2.2.2.2; simpa using this) hkl (by omega) (by simp [Value.oneCell'])).mono ?_); rintro e w3 ⟨rfl, hD, hG3⟩; have HO3 := Lib.hid (owns_del hD.out HG.out.1 rfl hkl HG.out.2.2.1 HG.out.2.2.2.1); clear hD; have HK3 : Hid (Keep (w.heap.size + 2) [(w.heap.size + 1, 2)] W w3) := HK2.out.grown hG3.out (by rintro g' h'; cases h'; exact HG.out.1))
    | (go_at_call 27; refine (turned_any n _ (.slice (some ⟨g, 0, none⟩) (l.length - 1) cap2) l (l.eraseIdx k) _ (H.out.same (Keep.old HK3.out HN.out (by omega) (by simp))) (by have := SlI.of_owns HO3.out rfl (by simp [List.length_eraseIdx, hkl]; omega); exact this)).mono ?_; rintro e w5 ⟨m5, ao5, k5, cap5, rfl, hm5, hu5, hN5⟩; have hk5 : Keep (w.heap.size + 2) [(w.heap.size + 1, 2)] W w5 := Keep.new HK3.out hN5; have hr5 := hk5.row (b := w.heap.size + 1) (n := 2) (by simp); obtain ⟨u0, hu0⟩ := hr5.cell 0 (by omega); obtain ⟨u1, hu1⟩ := hr5.cell 1 (by omega); have f0 := hr5.free 0; have f1 := hr5.free 1; clear hr5)
    | (refine take_silent rfl rfl rfl (fun K hK => ?_); conv => arg 2; whnf)
    | (refine take_fieldAddr rfl rfl (by kernel_rfl) rfl (fun K hK => ?_); conv => arg 2; whnf)
    | (refine take_load' rfl rfl rfl rfl (by assumption) l0 (by simp) (by first | exact a0 | exact a1) (fun K hK => ?_); conv => arg 2; whnf)
    | (refine take_int rfl rfl rfl rfl rfl (fun K hK => ?_); conv => arg 2; whnf)
    | (refine eff_one rfl rfl (fun K hK => ?_); conv => arg 2; whnf)
    | (refine and_then (by assumption) (fun hk => ?_))
    | (refine and_then HK3.out (fun hk => ?_))
    | (refine and_then HK2.out (fun hk => ?_))
    | (refine and_then (Keep.setCell (Keep.setCell (by assumption) _ (by simp)) _ (by simp)) (fun hk => ?_))
    | (refine plan_done ?_))
  refine bodyPost_ret (v := .tuple #[.agg #[.int .i64 m5, .slice ao5 k5 cap5], .bool (tOk n l (l.eraseIdx k))]) (by simp [results, Try.results18, go_sem, *]) rfl ⟨_, _, rfl, hm5.out, ?_, ?_⟩
  · rw [hu5.out]
    split
    · refine SlI.of_owns (ownsRow_setCell_below (ownsRow_setCell_below (owns_new HO3.out hN5) ?_ _) ?_ _) rfl (by simp [List.length_eraseIdx, hkl]; omega)
      · show w.heap.size + 1 < w.heap.size + 2; omega
      · show w.heap.size + 1 < w.heap.size + 2; omega
    · exact Sl.nil _
  · have b1 : Below w.heap.size w W.drew := HN.out.drew
    exact ((((b1.step hN2 (by simp; omega)).grown hG3.out (by have := hN2.size; simp at this ⊢; omega) (fun g' hg' => by cases hg'; have := HG.out.1; omega)).step hN5 (by have := HK3.out.a; omega)).setCell (by simp) _).setCell (by simp) _

theorem without_any (n : Int) (v : Value) (l : List Int) (x : Int) (w : World) (h : SlI w v l) (hl : l.length ≤ 1000000) :
    Calls Try.prog 18 #[.agg #[.int .i64 n, v], .int .i64 x] w (ConfR w (rmOk n l x) n (rmI l x)) := by
  by_cases hi : idx x l 0 < 0
  · have : rmOk n l x = false := by simp [rmOk]; omega
    rw [this]; exact without_none n v l x w h hi
  · have : rmOk n l x = tOk n l (rmI l x) := by simp [rmOk]; omega
    rw [this]; exact without_some n v l x w h hl (idx x l 0).toNat (by omega)
end Go.Proofs.Ytbomebnonkcieaa
