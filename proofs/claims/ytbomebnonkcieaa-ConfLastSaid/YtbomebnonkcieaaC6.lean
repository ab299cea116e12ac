import Derived.Test.YtbomebnonkcieaaC5
import Derived.RegionTactic
import Derived.BigRegion
import Derived.Deep.RegionLaw
namespace Go.Proofs.Ytbomebnonkcieaa
open Go.RowKit Go.Mem


theorem step_append_setRow {P : Program} {ops : Array Oper} {o : Oper} {a : Act} {w : World} {K : Act → World → Prop} {Q : Exit → Act → World → Prop} {E : Prop}
    (hg : o.guard = none) (s x : Operand) (t : TypeId) (hop : o.op = Op.call { callee := Callee.builtin Builtin.append, args := #[s, x], argTypes := #[t, t] })
    (e : TypeId) (i : TypeInfo) (h1 : P.underlying t = some (.slice e)) (h2 : P.info? e = some i) (h4 : i.size = 1)
    (g n cap : Nat) (cur : Array Value) (hs : a.eval s = .slice (some ⟨g, 0, none⟩) n cap) (hb : w.heap[g]? = some (.cells cur e (0, 0)))
    (ad : Addr) (m c : Nat) (news : List Value) (hx : a.eval x = .slice (some ad) m c) (hn : news.length = m) (hc : ∀ j u, news[j]? = some u → w.cell? (ad.add j) = some u) (h1c : ∀ u ∈ news, u.oneCell' = true)
    (hroom : n + m ≤ cap) (hfit : cap ≤ cur.size)
    (hK : K (a.put o.dst (.slice (some ⟨g, 0, none⟩) (n + m) cap)) (w.setRow g (cur.toList.take n ++ news ++ cur.toList.drop (n + m)).toArray)) :
    if Region.wanted o (yielded ops a.tmps) = true then Oper.wp P o a w K Q else E := by
  have hw : Region.wanted o (yielded ops a.tmps) = true := by simp [Region.wanted, hg]
  rw [if_pos hw]
  have hrun := run_append_room (P := P) w t o.type e i h1 h2 g n cap cur hb ad m c news (by rw [h4]; omega) hc h1c hroom (by rw [h4]; omega)
  rw [h4, Nat.mul_one, hn] at hrun
  unfold Oper.wp
  simp [execOp, hop, resolve, invoke, builtin, hs, hx, hrun, Result.andThen]
  rw [List.append_assoc] at hK
  exact hK

theorem run_clear_row {P : Program} (w : World) (t e ty : TypeId) (z : Value) (ht : P.underlying t = some (.slice e)) (hv : ∀ w, (zeroValue e).run P w = .ok z w) (hz : z.cells = #[z]) (h1 : z.oneCell' = true) (g o c : Nat) (cur : Array Value)
    (hb : w.heap[g]? = some (.cells cur e (0, 0))) (ho : o < cur.size) :
    (Builtin.clear_ #[t] ty #[.slice (some ⟨g, o, none⟩) 1 c]).run P w = .ok (.tuple #[]) (w.setRow g (cur.setIfInBounds o z)) := by
  have hcell : (w.cell? ⟨g, o, none⟩).isSome = true := by simp [World.cell?, hb, ho]
  have := Lib.run_clear_slice (P := P) w t e ty z ht hv hz h1 g o 1 c (Nat.lt_succ_self 0)
    (fun j hj => by
      obtain rfl : j = 0 := Nat.lt_one_iff.1 hj
      exact hcell) (fun j hj => by simp [World.frozen?, hb])
  rw [this]
  simp only [List.replicate, World.setCells]
  rw [setCell_eq_setRow w g o cur e (0, 0) z hb]

theorem wpList_clear_row {P : Program} {ops : Array Oper} {rest : List Oper} {o : Oper} {a : Act} {w : World} {Q : Exit → Act → World → Prop} (hgd : o.guard = none) (x : Operand) (t : TypeId)
    (hop : o.op = Op.call { callee := Callee.builtin Builtin.clear, args := #[x], argTypes := #[t] })
    (e : TypeId) (z : Value) (ht : P.underlying t = some (.slice e)) (hv : ∀ w, (zeroValue e).run P w = .ok z w) (hz : z.cells = #[z]) (h1 : z.oneCell' = true) (g off c : Nat) (cur : Array Value)
    (hx : a.eval x = .slice (some ⟨g, off, none⟩) 1 c) (hb : w.heap[g]? = some (.cells cur e (0, 0))) (ho : off < cur.size)
    (h : wpList P ops Q rest (a.put o.dst (.tuple #[])) (w.setRow g (cur.setIfInBounds off z))) : wpList P ops Q (o :: rest) a w := by
  refine wpList_plain hgd fun K hK => ?_
  have hrun := run_clear_row (P := P) w t e o.type z ht hv hz h1 g off c cur hb ho
  unfold Oper.wp
  simp [execOp, hop, resolve, invoke, builtin, hx, hrun, Result.andThen]
  exact hK _ _ h

theorem Try.zero3 (w : World) : (zeroValue 3).run Try.prog w = .ok (.int .i64 0) w := by kernel_rfl

theorem del_list {α : Type} (cur : List α) (n k : Nat) (z : α) (hk : k < n) (hn : n ≤ cur.length) :
    ((cur.take k ++ (cur.take n).drop (k+1) ++ cur.drop (n - 1)).set (n-1) z).take (n-1) = (cur.take n).eraseIdx k := by
  rw [List.take_set_of_le (Nat.le_refl _), List.eraseIdx_eq_take_drop_succ]
  have h1 : (cur.take k ++ (cur.take n).drop (k+1)).length = n - 1 := by simp; omega
  rw [List.take_append_of_le_length (by omega), List.take_of_length_le (by omega), List.take_take, Nat.min_eq_left (by omega)]

set_option maxHeartbeats 800000 in
theorem delete_any (g n cap k : Nat) (cur : Array Value) (xs : List Value) (w : World) (hg : w.heap[g]? = some (.cells cur 3 (0, 0))) (hnc : n ≤ cap) (hcs : cur.size = cap)
    (hx : cur.toList.take n = xs) (hk : k < n) (hn : n ≤ 281474976710656) (hone : ∀ u ∈ xs, u.oneCell' = true) :
    Calls Try.prog 30 #[.slice (some ⟨g, 0, none⟩) n cap, .int .i64 k, .int .i64 ((k : Int) + 1)] w fun e w' =>
      e = .returned (.slice (some ⟨g, 0, none⟩) (n - 1) cap) ∧ Hid (∃ cur', w'.heap[g]? = some (.cells cur' 3 (0, 0)) ∧ cur'.size = cap ∧ cur'.toList.take (n-1) = xs.eraseIdx k) ∧ Hid (w.grownBy w' (some g)) := by
  obtain ⟨i0, hi0, hz0, hz1, hz2⟩ := info_parts Try.info3
  have hk1 : (k : Int) < n := by omega
  have hk2 : ((k : Int) == (k : Int) + 1) = false := beq_eq_false_iff_ne.2 (by omega)
  obtain ⟨A, hA, hnews⟩ : ∃ A : Addr, (if cap = k + 1 then some (⟨g, 0, none⟩ : Addr) else some ⟨g, k + 1, none⟩) = some A ∧ Hid (∀ j u, (xs.drop (k+1))[j]? = some u → w.drew.cell? (A.add j) = some u) := by
    by_cases h : cap = k + 1
    · refine ⟨⟨g, 0, none⟩, by simp [h], fun j u hu => ?_⟩
      rw [List.drop_of_length_le (by rw [← hx]; simp; omega)] at hu
      simp at hu
    · refine ⟨⟨g, k + 1, none⟩, by simp [h], fun j u hu => ?_⟩
      rw [← hx, List.getElem?_drop, List.getElem?_take] at hu
      rw [Addr.add_mid, World.cell?_drew, cell_of_row w g _ cur 3 (0, 0) hg]
      split at hu
      · simpa using hu
      · cases hu
  have H1 := Lib.hid hg
  have H2 := Lib.hid hx
  have H3 : Hid (∀ u ∈ xs.drop (k+1), u.oneCell' = true) := fun u hu => hone u (List.mem_of_mem_drop hu)
  have H4 := Lib.hid hcs
  have H5 : Hid ((xs.drop (k+1)).length = n - (k + 1)) := by rw [← hx]; simp [Hid]; omega
  have hic : k ≤ cap := by omega
  have hwr : IntKind.i64.wrap ((k : Int) + 1) = (k : Int) + 1 := by rw [IntKind.wrap_i64]; omega
  have hp0 : (0 : Int) ≤ (k : Int) + 1 := by omega
  have hp1 : (k : Int) + 1 ≤ (n : Int) := by omega
  have hp2 : ((k : Int) + 1).toNat = k + 1 := by omega
  clear hg hx hone hcs
  go_enter Try.func30, Try.ntmps30
  go_wp2_with fail
  go_region_law (refine step_append_setRow rfl (.tmp 22) (.tmp 25) 22 rfl 3 i0 Try.underlying22 hi0 hz1 g k cap cur (by simp [Act.eval, Act.put]) H1.out A (n - (k + 1)) (cap - (k + 1)) (xs.drop (k+1)) (by simp [Act.eval, Act.put]) H5.out hnews.out H3.out (by omega) (by rw [H4.out]; omega) ?_)
  have hlast : k + (n - (k + 1)) = n - 1 := by omega
  have hcap1 : ¬ cap = n - 1 := by omega
  have hn1 : n - (n - 1) = 1 := by omega
  have hsz : Hid (n - 1 < (List.take k cur.toList ++ (List.drop (k + 1) xs ++ List.drop (n - 1) cur.toList)).toArray.size) := by
    have := H5.out; have := H4.out; simp [Hid] at *; omega
  go_wp2_with (refine wpList_clear_row rfl (.tmp 31) 22 rfl 3 (.int .i64 0) Try.underlying22 Try.zero3 rfl rfl g (n - 1) _ _ rfl (setRow_heap w.drew g cur _ 3 (0, 0) H1.out) hsz.out ?_)
  go_ret
  refine ⟨rfl, ⟨_, setRow_heap _ _ _ _ _ _ (setRow_heap w.drew g cur _ 3 (0, 0) H1.out), ?_, ?_⟩, ⟨rfl, rfl, rfl, by simp, fun i hi hne => ?_⟩⟩
  · have := H5.out; have := H4.out; simp at *; omega
  · have e2 := H2.out
    have := H4.out
    rw [← e2]
    have := del_list cur.toList n k (Value.int .i64 0) hk (by simp; omega)
    simpa [Array.toList_setIfInBounds, List.append_assoc] using this
  · have : i ≠ g := fun h => hne (by rw [h])
    rw [setRow_other _ _ _ _ this, setRow_other _ _ _ _ this]; rfl
end Go.Proofs.Ytbomebnonkcieaa
