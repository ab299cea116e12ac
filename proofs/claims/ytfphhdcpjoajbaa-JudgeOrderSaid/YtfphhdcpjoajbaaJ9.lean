import Derived.Test.YtfphhdcpjoajbaaJ8
import Derived.Test.YtfphhdcpjoajbaaV18
namespace Go.Proofs.Ytfphhdcpjoajbaa
open Go.VM Go.RowKit
set_option maxRecDepth 100000 in
theorem Clone_spec (l : List Ev) (off c : Nat) (h0 : 0 < l.length) (hl : l.length < 1000000000)
    (K : VV → Heap → Prop) (hK : ∀ c' m, l.length ≤ c' → K (.sl 2 0 l.length c') ⟨3, [(2, .row (re l) 41 (m + 1)), (1, .ro off (re l))]⟩) :
    Gam Try.prog 27 [.sl 1 off l.length c] ⟨2, [(1, .ro off (re l))]⟩ K := by
  obtain ⟨hd, tl, hcs⟩ : ∃ hd tl, re l = hd :: tl := rowsV_ne encEv_len (by omega) (by omega)
  refine gam_enter Try.tok (by kernel_rfl) Try.func27 rfl rfl rfl ?_
  refine c_seq ?_
  (repeat (first | with_reducible refine e_seq ?_ | with_reducible refine c_seq ?_ | with_reducible refine c_block ?_ | with_reducible refine c_skip ?_ | with_reducible refine c_exit ?_ | with_reducible refine c_ret ?_ | with_reducible refine e_seq_ret ?_ | with_reducible refine e_seq_exit ?_ | with_reducible refine e_block_ret ?_ | with_reducible refine e_block_exit ?_ | with_reducible refine e_block ?_ | with_reducible refine e_block_other rfl ?_ | with_reducible refine e_loop_exit ?_ | with_reducible refine e_loop_ret ?_ | ((with_reducible refine c_region (fun K' hK' => ?_)); (conv => whnf); (repeat (first | (refine And.intro rfl ?_; (conv => whnf)) | (refine And.intro (by decide) ?_; (conv => whnf)))); (with_reducible refine hK' _ _ ?_); clear hK' K')))
  (with_reducible refine c_region (fun K' hK' => ?_)); (conv => whnf); (repeat (first | (refine And.intro rfl ?_; (conv => whnf)) | (refine And.intro (by decide) ?_; (conv => whnf))))
  rw [hcs]; (conv => whnf); rw [← hcs]
  (with_reducible refine hK' _ _ ?_); clear hK' K'
  (repeat (first | with_reducible refine e_seq ?_ | with_reducible refine c_seq ?_ | with_reducible refine c_block ?_ | with_reducible refine c_skip ?_ | with_reducible refine c_exit ?_ | with_reducible refine c_ret ?_ | with_reducible refine e_seq_ret ?_ | with_reducible refine e_seq_exit ?_ | with_reducible refine e_block_ret ?_ | with_reducible refine e_block_exit ?_ | with_reducible refine e_block ?_ | with_reducible refine e_block_other rfl ?_ | with_reducible refine e_loop_exit ?_ | with_reducible refine e_loop_ret ?_ | ((with_reducible refine c_region (fun K' hK' => ?_)); (conv => whnf); (repeat (first | (refine And.intro rfl ?_; (conv => whnf)) | (refine And.intro (by decide) ?_; (conv => whnf)))); (with_reducible refine hK' _ _ ?_); clear hK' K')))
  refine c_cond_f (by (conv => whnf) <;> rfl) ?_
  (repeat (first | with_reducible refine e_seq ?_ | with_reducible refine c_seq ?_ | with_reducible refine c_block ?_ | with_reducible refine c_skip ?_ | with_reducible refine c_exit ?_ | with_reducible refine c_ret ?_ | with_reducible refine e_seq_ret ?_ | with_reducible refine e_seq_exit ?_ | with_reducible refine e_block_ret ?_ | with_reducible refine e_block_exit ?_ | with_reducible refine e_block ?_ | with_reducible refine e_block_other rfl ?_ | with_reducible refine e_loop_exit ?_ | with_reducible refine e_loop_ret ?_ | ((with_reducible refine c_region (fun K' hK' => ?_)); (conv => whnf); (repeat (first | (refine And.intro rfl ?_; (conv => whnf)) | (refine And.intro (by decide) ?_; (conv => whnf)))); (with_reducible refine hK' _ _ ?_); clear hK' K')))
  (with_reducible refine c_region (fun K' hK' => ?_)); (conv => whnf); (repeat (first | (refine And.intro rfl ?_; (conv => whnf)) | (refine And.intro (by decide) ?_; (conv => whnf))))
  refine sem_buildSlice0 (e := 0) Try.tok rfl ?_
  (conv => whnf); (repeat (first | (refine And.intro rfl ?_; (conv => whnf)) | (refine And.intro (by decide) ?_; (conv => whnf))))
  refine ⟨Nat.le_refl _, ?_⟩
  refine takeC_full (by simp) (re_len l) ?_
  (conv => whnf); (repeat (first | (refine And.intro rfl ?_; (conv => whnf)) | (refine And.intro (by decide) ?_; (conv => whnf))))
  refine ⟨⟨by simp; omega, by omega⟩, ?_⟩
  (conv => whnf); (repeat (first | (refine And.intro rfl ?_; (conv => whnf)) | (refine And.intro (by decide) ?_; (conv => whnf))))
  refine fun c' hc' => ?_
  (conv => whnf); (repeat (first | (refine And.intro rfl ?_; (conv => whnf)) | (refine And.intro (by decide) ?_; (conv => whnf))))
  (with_reducible refine hK' _ _ ?_); clear hK' K'
  (repeat (first | with_reducible refine e_seq ?_ | with_reducible refine c_seq ?_ | with_reducible refine c_block ?_ | with_reducible refine c_skip ?_ | with_reducible refine c_exit ?_ | with_reducible refine c_ret ?_ | with_reducible refine e_seq_ret ?_ | with_reducible refine e_seq_exit ?_ | with_reducible refine e_block_ret ?_ | with_reducible refine e_block_exit ?_ | with_reducible refine e_block ?_ | with_reducible refine e_block_other rfl ?_ | with_reducible refine e_loop_exit ?_ | with_reducible refine e_loop_ret ?_ | ((with_reducible refine c_region (fun K' hK' => ?_)); (conv => whnf); (repeat (first | (refine And.intro rfl ?_; (conv => whnf)) | (refine And.intro (by decide) ?_; (conv => whnf)))); (with_reducible refine hK' _ _ ?_); clear hK' K')))
  obtain ⟨m, hm⟩ : ∃ m, c' * 12 = m + 1 := ⟨c' * 12 - 1, by omega⟩
  refine ⟨[3], .sl 2 0 l.length c', ⟨3, [(2, .row (re l) 41 (m + 1)), (1, .ro off (re l))]⟩, rfl, by simp, ?_, by simp [wf, wf1, sc], ?_, by simp [Apart, thet], hK c' m (by omega)⟩
  · simp [ren, thet]
  · refine ⟨⟨by simp, wf_row (flatRe l), .row (re l) 41 (c' * 12), ?_, ?_⟩, esr_ro (by simp) (flatRe l) (by first | exact List.Mem.head _ | exact .tail _ (.head _) | exact .tail _ (.tail _ (.head _)) | exact .tail _ (.tail _ (.tail _ (.head _))) | exact .tail _ (.tail _ (.tail _ (.tail _ (.head _)))) | exact .tail _ (.tail _ (.tail _ (.tail _ (.tail _ (.head _))))) | exact .tail _ (.tail _ (.tail _ (.tail _ (.tail _ (.tail _ (.head _)))))) | exact .tail _ (.tail _ (.tail _ (.tail _ (.tail _ (.tail _ (.tail _ (.head _))))))) | exact .tail _ (.tail _ (.tail _ (.tail _ (.tail _ (.tail _ (.tail _ (.tail _ (.head _))))))))) trivial⟩
    · exact List.Mem.head _
    · simp only [VObj.ren, (flatRe l).1, hm]; exact Cov.refl _
def keepB (e : Ev) : Bool := !dropB e
def zeroEv : Ev := ⟨0, ⟨0, ⟨#[]⟩, ⟨#[]⟩, 0⟩, 0, 0, 0, ⟨0, false, ⟨#[]⟩⟩, 0⟩
theorem told1_call (e : Ev) (H : Heap) (hp : 1 ≤ H.n) (K : VV → Heap → Prop) (hK : K (.bool (dropB e)) H) : Gam Try.prog 28 [.agg (encEv e)] H K :=
  call0 hp (fun θ => by simp [renL, ren, (flatE _).1]) ⟨.inr (scL_agg (flatE _)), trivial⟩ (told1_spec e _ ⟨⟨rfl, fun _ => rfl⟩, hK⟩)
def cnt (l : List Ev) (j : Nat) : Nat := ((l.take j).filter keepB).length
structure DelI (l0 : List Ev) (j : Nat) (d : List Ev) : Prop where
  le : j ≤ l0.length
  len : d.length = l0.length
  dr : d.drop j = l0.drop j
  tk : d.take (cnt l0 j) = (l0.take j).filter keepB
  lt : cnt l0 j < j
theorem take_succ_get {l : List Ev} {j : Nat} (h : j < l.length) : l.take (j + 1) = l.take j ++ [l[j]] := by rw [List.take_succ_eq_append_getElem h]
theorem DelI.get {l0 d : List Ev} {j : Nat} (h : DelI l0 j d) (hj : j < l0.length) : d[j]'(by rw [h.len]; exact hj) = l0[j] := by
  have := congrArg (fun l => l[0]?) h.dr
  simp only [List.getElem?_drop, Nat.add_zero] at this
  rw [List.getElem?_eq_getElem hj, List.getElem?_eq_getElem (by rw [h.len]; exact hj)] at this
  exact Option.some.inj this
theorem DelI.skip {l0 d : List Ev} {j : Nat} (h : DelI l0 j d) (hj : j < l0.length) (hk : keepB l0[j] = false) : DelI l0 (j + 1) d := by
  have e : (l0.take (j + 1)).filter keepB = (l0.take j).filter keepB := by rw [take_succ_get hj, List.filter_append]; simp [hk]
  have ec : cnt l0 (j + 1) = cnt l0 j := by unfold cnt; rw [e]
  refine ⟨hj, h.len, ?_, by rw [ec, e]; exact h.tk, by rw [ec]; have := h.lt; omega⟩
  rw [← List.drop_drop, h.dr, List.drop_drop]
theorem DelI.keep {l0 d : List Ev} {j : Nat} (h : DelI l0 j d) (hj : j < l0.length) (hk : keepB l0[j] = true) : DelI l0 (j + 1) (d.set (cnt l0 j) l0[j]) ∧ cnt l0 (j + 1) = cnt l0 j + 1 := by
  have e : (l0.take (j + 1)).filter keepB = (l0.take j).filter keepB ++ [l0[j]] := by rw [take_succ_get hj, List.filter_append]; simp [hk]
  have ec : cnt l0 (j + 1) = cnt l0 j + 1 := by unfold cnt; rw [e]; simp
  have hlt := h.lt
  refine ⟨⟨hj, by simp [h.len], ?_, ?_, by omega⟩, ec⟩
  · rw [List.drop_set_of_lt (by omega), ← List.drop_drop, h.dr, List.drop_drop]
  · rw [ec, e, List.take_succ_eq_append_getElem (by simp [h.len]; omega), List.getElem_set_self, ← h.tk, List.take_set_of_le (Nat.le_refl _)]
set_option maxRecDepth 100000 in
theorem Delete_spec (l0 : List Ev) (m c : Nat) (hl : l0.length < 1000000000) (hc : l0.length ≤ c)
    (K : VV → Heap → Prop) (hK : ∀ t, K (.sl 1 0 (l0.filter keepB).length c) (evH (l0.filter keepB) t m)) :
    Gam Try.prog 26 [.sl 1 0 l0.length c, .fn 28 []] ⟨2, [(1, .row (re l0) 41 (m + 1))]⟩ K := by
  unfold evH at hK
  refine gam_enter Try.tok (by kernel_rfl) Try.func26 rfl rfl rfl ?_
  refine c_seq ?_
  (repeat (first | with_reducible refine e_seq ?_ | with_reducible refine c_seq ?_ | with_reducible refine c_block ?_ | with_reducible refine c_skip ?_ | with_reducible refine c_exit ?_ | with_reducible refine c_ret ?_ | with_reducible refine e_seq_ret ?_ | with_reducible refine e_seq_exit ?_ | with_reducible refine e_block_ret ?_ | with_reducible refine e_block_exit ?_ | with_reducible refine e_block ?_ | with_reducible refine e_block_other rfl ?_ | with_reducible refine e_loop_exit ?_ | with_reducible refine e_loop_ret ?_ | ((with_reducible refine c_region (fun K' hK' => ?_)); (conv => whnf); (repeat (first | (refine And.intro rfl ?_; (conv => whnf)) | (refine And.intro (by decide) ?_; (conv => whnf)))); (with_reducible refine hK' _ _ ?_); clear hK' K')))
  (with_reducible refine c_region (fun K' hK' => ?_)); (conv => whnf); (repeat (first | (refine And.intro rfl ?_; (conv => whnf)) | (refine And.intro (by decide) ?_; (conv => whnf))))
  refine call_rule [1] (h := ⟨2, [(1, .ro 0 (re l0))]⟩) (args0 := [.sl 1 0 l0.length c, .fn 28 []]) rfl (by simp [renL, ren, calT]) (by simp [wfArgs, wf, wf1, sc, scL]) (by simp) (esr_row_ro (by simp) (flatRe _) (List.Mem.head _) trivial) apart_one ?_
  refine indexE_spec l0 dropB 0 c 28 [] [] 2 (by omega) (by decide) trivial (by simp) ((flatRe _).2 _) (by simp) (fun e he K hK => told1_call e _ (by simp) K hK) _ ?_
  intro r2 n2 es2 hr hn hes
  cases hr; cases hn; cases hes
  (conv => whnf); (repeat (first | (refine And.intro rfl ?_; (conv => whnf)) | (refine And.intro (by decide) ?_; (conv => whnf))))
  (with_reducible refine hK' _ _ ?_); clear hK' K'
  cases hidx : l0.findIdx? dropB with
  | none =>
    have hi : idxI dropB l0 = -1 := by unfold idxI; rw [hidx]
    rw [hi]
    (repeat (first | with_reducible refine e_seq ?_ | with_reducible refine c_seq ?_ | with_reducible refine c_block ?_ | with_reducible refine c_skip ?_ | with_reducible refine c_exit ?_ | with_reducible refine c_ret ?_ | with_reducible refine e_seq_ret ?_ | with_reducible refine e_seq_exit ?_ | with_reducible refine e_block_ret ?_ | with_reducible refine e_block_exit ?_ | with_reducible refine e_block ?_ | with_reducible refine e_block_other rfl ?_ | with_reducible refine e_loop_exit ?_ | with_reducible refine e_loop_ret ?_ | ((with_reducible refine c_region (fun K' hK' => ?_)); (conv => whnf); (repeat (first | (refine And.intro rfl ?_; (conv => whnf)) | (refine And.intro (by decide) ?_; (conv => whnf)))); (with_reducible refine hK' _ _ ?_); clear hK' K')))
    refine c_cond_t (by (conv => whnf) <;> rfl) ?_
    (repeat (first | with_reducible refine e_seq ?_ | with_reducible refine c_seq ?_ | with_reducible refine c_block ?_ | with_reducible refine c_skip ?_ | with_reducible refine c_exit ?_ | with_reducible refine c_ret ?_ | with_reducible refine e_seq_ret ?_ | with_reducible refine e_seq_exit ?_ | with_reducible refine e_block_ret ?_ | with_reducible refine e_block_exit ?_ | with_reducible refine e_block ?_ | with_reducible refine e_block_other rfl ?_ | with_reducible refine e_loop_exit ?_ | with_reducible refine e_loop_ret ?_ | ((with_reducible refine c_region (fun K' hK' => ?_)); (conv => whnf); (repeat (first | (refine And.intro rfl ?_; (conv => whnf)) | (refine And.intro (by decide) ?_; (conv => whnf)))); (with_reducible refine hK' _ _ ?_); clear hK' K')))
    have hf : l0.filter keepB = l0 := by
      rw [List.filter_eq_self]
      intro x hx
      rw [List.findIdx?_eq_none_iff] at hidx
      simp [keepB, hidx x hx]
    have := hK []
    rw [hf, List.append_nil] at this
    exact ret_id (es := [(1, .row (re l0) 41 (m + 1))]) (Nat.le_refl _) (by simp) (by simp [wf, wf1, sc]) ((ess_same (by simp) (by first | exact trivial | (simp [VObj.wf, scL, sc]; done) | exact wf_ro (by first | assumption | exact flatRb _ | exact flatH _ | exact flatE _ | exact flatRe _ | (repeat (first | exact FlatL.nil | refine FlatL.int ?_ | refine FlatL.bool ?_ | refine FlatL.str ?_)); done) | exact wf_row (by first | assumption | exact flatRb _ | exact flatH _ | exact flatE _ | exact flatRe _ | (repeat (first | exact FlatL.nil | refine FlatL.int ?_ | refine FlatL.bool ?_ | refine FlatL.str ?_)); done)) (by first | exact List.Mem.head _ | exact .tail _ (.head _) | exact .tail _ (.tail _ (.head _)) | exact .tail _ (.tail _ (.tail _ (.head _))) | exact .tail _ (.tail _ (.tail _ (.tail _ (.head _)))) | exact .tail _ (.tail _ (.tail _ (.tail _ (.tail _ (.head _))))) | exact .tail _ (.tail _ (.tail _ (.tail _ (.tail _ (.tail _ (.head _)))))) | exact .tail _ (.tail _ (.tail _ (.tail _ (.tail _ (.tail _ (.tail _ (.head _))))))) | exact .tail _ (.tail _ (.tail _ (.tail _ (.tail _ (.tail _ (.tail _ (.tail _ (.head _))))))))) trivial)) (by simp) this
  | some i0 =>
    have hi : idxI dropB l0 = (i0 : Int) := by unfold idxI; rw [hidx]
    rw [hi]
    obtain ⟨hil, hdi, hbi⟩ := List.findIdx?_eq_some_iff_getElem.1 hidx
    (repeat (first | with_reducible refine e_seq ?_ | with_reducible refine c_seq ?_ | with_reducible refine c_block ?_ | with_reducible refine c_skip ?_ | with_reducible refine c_exit ?_ | with_reducible refine c_ret ?_ | with_reducible refine e_seq_ret ?_ | with_reducible refine e_seq_exit ?_ | with_reducible refine e_block_ret ?_ | with_reducible refine e_block_exit ?_ | with_reducible refine e_block ?_ | with_reducible refine e_block_other rfl ?_ | with_reducible refine e_loop_exit ?_ | with_reducible refine e_loop_ret ?_ | ((with_reducible refine c_region (fun K' hK' => ?_)); (conv => whnf); (repeat (first | (refine And.intro rfl ?_; (conv => whnf)) | (refine And.intro (by decide) ?_; (conv => whnf)))); (with_reducible refine hK' _ _ ?_); clear hK' K')))
    refine c_cond_f (by (conv => whnf) <;> rfl) ?_
    (repeat (first | with_reducible refine e_seq ?_ | with_reducible refine c_seq ?_ | with_reducible refine c_block ?_ | with_reducible refine c_skip ?_ | with_reducible refine c_exit ?_ | with_reducible refine c_ret ?_ | with_reducible refine e_seq_ret ?_ | with_reducible refine e_seq_exit ?_ | with_reducible refine e_block_ret ?_ | with_reducible refine e_block_exit ?_ | with_reducible refine e_block ?_ | with_reducible refine e_block_other rfl ?_ | with_reducible refine e_loop_exit ?_ | with_reducible refine e_loop_ret ?_ | ((with_reducible refine c_region (fun K' hK' => ?_)); (conv => whnf); (repeat (first | (refine And.intro rfl ?_; (conv => whnf)) | (refine And.intro (by decide) ?_; (conv => whnf)))); (with_reducible refine hK' _ _ ?_); clear hK' K')))
    rw [wrap_i64 (by omega)]
    have hI0 : DelI l0 (i0 + 1) l0 ∧ cnt l0 (i0 + 1) = i0 := by
      have e : (l0.take i0).filter keepB = l0.take i0 := by
        rw [List.filter_eq_self]
        intro x hx
        obtain ⟨j, hj, rfl⟩ := List.mem_iff_getElem.1 hx
        have hj' : j < i0 := by simp at hj; omega
        have := hbi j hj'
        simp only [List.getElem_take, keepB]
        simpa using this
      have hk : keepB l0[i0] = false := by simp [keepB, hdi]
      have e1 : (l0.take (i0 + 1)).filter keepB = l0.take i0 := by rw [take_succ_get hil, List.filter_append, e]; simp [hk]
      have ec : cnt l0 (i0 + 1) = i0 := by unfold cnt; rw [e1]; simp; omega
      exact ⟨⟨hil, rfl, rfl, by rw [ec, e1], by omega⟩, ec⟩
    refine sem_loopX Try.tok (show 1 ≤ 2 by omega) (fun (x : Nat × List Ev) => ((.sl 1 0 l0.length c :: .fn 28 [] :: .any :: .any :: .any :: .int .i64 (cnt l0 x.1 : Nat) :: .int .i64 (x.1 : Nat) :: .any :: .any :: .any :: .any :: .any :: .any :: .any :: .any :: .any :: .any :: .any :: .any :: .any :: .any :: .any :: .any :: .any :: .any :: .any :: .any :: .any :: .any :: .any :: .any :: .any :: .any :: .any :: .any :: .any :: .any :: .any :: .any :: .any :: .any :: .any :: []))) (fun x => ⟨2, [(1, .row (re x.2) 41 (m + 1))]⟩)
      (fun x => DelI l0 x.1 x.2) (fun x => l0.length - x.1) (i0 + 1, l0) hI0.1 ?_ ?_
    · refine StR_id (by simp) (Nat.le_refl _) ?_ ((ess_same (by simp) (by first | exact trivial | (simp [VObj.wf, scL, sc]; done) | exact wf_ro (by first | assumption | exact flatRb _ | exact flatH _ | exact flatE _ | exact flatRe _ | (repeat (first | exact FlatL.nil | refine FlatL.int ?_ | refine FlatL.bool ?_ | refine FlatL.str ?_)); done) | exact wf_row (by first | assumption | exact flatRb _ | exact flatH _ | exact flatE _ | exact flatRe _ | (repeat (first | exact FlatL.nil | refine FlatL.int ?_ | refine FlatL.bool ?_ | refine FlatL.str ?_)); done)) (by first | exact List.Mem.head _ | exact .tail _ (.head _) | exact .tail _ (.tail _ (.head _)) | exact .tail _ (.tail _ (.tail _ (.head _))) | exact .tail _ (.tail _ (.tail _ (.tail _ (.head _)))) | exact .tail _ (.tail _ (.tail _ (.tail _ (.tail _ (.head _))))) | exact .tail _ (.tail _ (.tail _ (.tail _ (.tail _ (.tail _ (.head _)))))) | exact .tail _ (.tail _ (.tail _ (.tail _ (.tail _ (.tail _ (.tail _ (.head _))))))) | exact .tail _ (.tail _ (.tail _ (.tail _ (.tail _ (.tail _ (.tail _ (.tail _ (.head _))))))))) trivial)) (by simp)
      simp only [hI0.2]
      exact ⟨⟨by first | rfl | (refine congrArg (VV.int _) ?_; rw [wrap_i64 (by omega)]; omega) | (refine congrArg (VV.int _) ?_; omega) | (simp; done), by first | exact trivial | (simp only [wf, wf1, sc, scL]; first | exact trivial | assumption | omega | (simp; done) | (simp; omega))⟩, ⟨by first | rfl | (refine congrArg (VV.int _) ?_; rw [wrap_i64 (by omega)]; omega) | (refine congrArg (VV.int _) ?_; omega) | (simp; done), by first | exact trivial | (simp only [wf, wf1, sc, scL]; first | exact trivial | assumption | omega | (simp; done) | (simp; omega))⟩, ⟨by first | rfl | (refine congrArg (VV.int _) ?_; rw [wrap_i64 (by omega)]; omega) | (refine congrArg (VV.int _) ?_; omega) | (simp; done), by first | exact trivial | (simp only [wf, wf1, sc, scL]; first | exact trivial | assumption | omega | (simp; done) | (simp; omega))⟩, ⟨by first | rfl | (refine congrArg (VV.int _) ?_; rw [wrap_i64 (by omega)]; omega) | (refine congrArg (VV.int _) ?_; omega) | (simp; done), by first | exact trivial | (simp only [wf, wf1, sc, scL]; first | exact trivial | assumption | omega | (simp; done) | (simp; omega))⟩, trivial⟩
    rintro ⟨j, d⟩ hI
    dsimp only at hI ⊢
    have hlen := hI.len
    have hlt := hI.lt
    (repeat (first | with_reducible refine e_seq ?_ | with_reducible refine c_seq ?_ | with_reducible refine c_block ?_ | with_reducible refine c_skip ?_ | with_reducible refine c_exit ?_ | with_reducible refine c_ret ?_ | with_reducible refine e_seq_ret ?_ | with_reducible refine e_seq_exit ?_ | with_reducible refine e_block_ret ?_ | with_reducible refine e_block_exit ?_ | with_reducible refine e_block ?_ | with_reducible refine e_block_other rfl ?_ | with_reducible refine e_loop_exit ?_ | with_reducible refine e_loop_ret ?_ | ((with_reducible refine c_region (fun K' hK' => ?_)); (conv => whnf); (repeat (first | (refine And.intro rfl ?_; (conv => whnf)) | (refine And.intro (by decide) ?_; (conv => whnf)))); (with_reducible refine hK' _ _ ?_); clear hK' K')))
    refine c_cond (by (conv => whnf) <;> rfl) (fun hj => ?_) (fun hj => ?_)
    · have hj : j < l0.length := by simpa using hj
      (repeat (first | with_reducible refine e_seq ?_ | with_reducible refine c_seq ?_ | with_reducible refine c_block ?_ | with_reducible refine c_skip ?_ | with_reducible refine c_exit ?_ | with_reducible refine c_ret ?_ | with_reducible refine e_seq_ret ?_ | with_reducible refine e_seq_exit ?_ | with_reducible refine e_block_ret ?_ | with_reducible refine e_block_exit ?_ | with_reducible refine e_block ?_ | with_reducible refine e_block_other rfl ?_ | with_reducible refine e_loop_exit ?_ | with_reducible refine e_loop_ret ?_ | ((with_reducible refine c_region (fun K' hK' => ?_)); (conv => whnf); (repeat (first | (refine And.intro rfl ?_; (conv => whnf)) | (refine And.intro (by decide) ?_; (conv => whnf)))); (with_reducible refine hK' _ _ ?_); clear hK' K')))
      (with_reducible refine c_region (fun K' hK' => ?_)); (conv => whnf); (repeat (first | (refine And.intro rfl ?_; (conv => whnf)) | (refine And.intro (by decide) ?_; (conv => whnf))))
      refine ⟨by omega, ?_⟩
      (conv => whnf); (repeat (first | (refine And.intro rfl ?_; (conv => whnf)) | (refine And.intro (by decide) ?_; (conv => whnf))))
      refine takeC_rows' encEv_len (l := d) (i := j) (by omega) ?_ (by simp)
      rw [hI.get hj]
      (conv => whnf); (repeat (first | (refine And.intro rfl ?_; (conv => whnf)) | (refine And.intro (by decide) ?_; (conv => whnf))))
      (with_reducible refine hK' _ _ ?_); clear hK' K'
      (repeat (first | with_reducible refine e_seq ?_ | with_reducible refine c_seq ?_ | with_reducible refine c_block ?_ | with_reducible refine c_skip ?_ | with_reducible refine c_exit ?_ | with_reducible refine c_ret ?_ | with_reducible refine e_seq_ret ?_ | with_reducible refine e_seq_exit ?_ | with_reducible refine e_block_ret ?_ | with_reducible refine e_block_exit ?_ | with_reducible refine e_block ?_ | with_reducible refine e_block_other rfl ?_ | with_reducible refine e_loop_exit ?_ | with_reducible refine e_loop_ret ?_ | ((with_reducible refine c_region (fun K' hK' => ?_)); (conv => whnf); (repeat (first | (refine And.intro rfl ?_; (conv => whnf)) | (refine And.intro (by decide) ?_; (conv => whnf)))); (with_reducible refine hK' _ _ ?_); clear hK' K')))
      (with_reducible refine c_region (fun K' hK' => ?_)); (conv => whnf); (repeat (first | (refine And.intro rfl ?_; (conv => whnf)) | (refine And.intro (by decide) ?_; (conv => whnf))))
      refine told1_call l0[j] _ (by simp) _ ?_
      (conv => whnf); (repeat (first | (refine And.intro rfl ?_; (conv => whnf)) | (refine And.intro (by decide) ?_; (conv => whnf))))
      (with_reducible refine hK' _ _ ?_); clear hK' K'
      refine c_cond (by (conv => whnf) <;> rfl) (fun hk => ?_) (fun hk => ?_)
      · have hk : keepB l0[j] = true := hk
        obtain ⟨hI', hc'⟩ := hI.keep hj hk
        (repeat (first | with_reducible refine e_seq ?_ | with_reducible refine c_seq ?_ | with_reducible refine c_block ?_ | with_reducible refine c_skip ?_ | with_reducible refine c_exit ?_ | with_reducible refine c_ret ?_ | with_reducible refine e_seq_ret ?_ | with_reducible refine e_seq_exit ?_ | with_reducible refine e_block_ret ?_ | with_reducible refine e_block_exit ?_ | with_reducible refine e_block ?_ | with_reducible refine e_block_other rfl ?_ | with_reducible refine e_loop_exit ?_ | with_reducible refine e_loop_ret ?_ | ((with_reducible refine c_region (fun K' hK' => ?_)); (conv => whnf); (repeat (first | (refine And.intro rfl ?_; (conv => whnf)) | (refine And.intro (by decide) ?_; (conv => whnf)))); (with_reducible refine hK' _ _ ?_); clear hK' K')))
        (with_reducible refine c_region (fun K' hK' => ?_)); (conv => whnf); (repeat (first | (refine And.intro rfl ?_; (conv => whnf)) | (refine And.intro (by decide) ?_; (conv => whnf))))
        refine ⟨by omega, ?_⟩
        (conv => whnf); (repeat (first | (refine And.intro rfl ?_; (conv => whnf)) | (refine And.intro (by decide) ?_; (conv => whnf))))
        refine putC_rows encEv_len (l := d) (i := cnt l0 j) (by omega) (x := l0[j]) rfl ?_ (by simp)
        (conv => whnf); (repeat (first | (refine And.intro rfl ?_; (conv => whnf)) | (refine And.intro (by decide) ?_; (conv => whnf))))
        (with_reducible refine hK' _ _ ?_); clear hK' K'
        (repeat (first | with_reducible refine e_seq ?_ | with_reducible refine c_seq ?_ | with_reducible refine c_block ?_ | with_reducible refine c_skip ?_ | with_reducible refine c_exit ?_ | with_reducible refine c_ret ?_ | with_reducible refine e_seq_ret ?_ | with_reducible refine e_seq_exit ?_ | with_reducible refine e_block_ret ?_ | with_reducible refine e_block_exit ?_ | with_reducible refine e_block ?_ | with_reducible refine e_block_other rfl ?_ | with_reducible refine e_loop_exit ?_ | with_reducible refine e_loop_ret ?_ | ((with_reducible refine c_region (fun K' hK' => ?_)); (conv => whnf); (repeat (first | (refine And.intro rfl ?_; (conv => whnf)) | (refine And.intro (by decide) ?_; (conv => whnf)))); (with_reducible refine hK' _ _ ?_); clear hK' K')))
        rw [wrap_i64 (by omega), wrap_i64 (by omega)]
        refine e_loop (j + 1, d.set (cnt l0 j) l0[j]) hI' (by simp; omega) (StR_id (by simp) (by simp) ?_ ((ess_same (by simp) (by first | exact trivial | (simp [VObj.wf, scL, sc]; done) | exact wf_ro (by first | assumption | exact flatRb _ | exact flatH _ | exact flatE _ | exact flatRe _ | (repeat (first | exact FlatL.nil | refine FlatL.int ?_ | refine FlatL.bool ?_ | refine FlatL.str ?_)); done) | exact wf_row (by first | assumption | exact flatRb _ | exact flatH _ | exact flatE _ | exact flatRe _ | (repeat (first | exact FlatL.nil | refine FlatL.int ?_ | refine FlatL.bool ?_ | refine FlatL.str ?_)); done)) (by first | exact List.Mem.head _ | exact .tail _ (.head _) | exact .tail _ (.tail _ (.head _)) | exact .tail _ (.tail _ (.tail _ (.head _))) | exact .tail _ (.tail _ (.tail _ (.tail _ (.head _)))) | exact .tail _ (.tail _ (.tail _ (.tail _ (.tail _ (.head _))))) | exact .tail _ (.tail _ (.tail _ (.tail _ (.tail _ (.tail _ (.head _)))))) | exact .tail _ (.tail _ (.tail _ (.tail _ (.tail _ (.tail _ (.tail _ (.head _))))))) | exact .tail _ (.tail _ (.tail _ (.tail _ (.tail _ (.tail _ (.tail _ (.tail _ (.head _))))))))) trivial)) (by simp))
        simp only [hc']
        exact ⟨⟨by first | rfl | (refine congrArg (VV.int _) ?_; rw [wrap_i64 (by omega)]; omega) | (refine congrArg (VV.int _) ?_; omega) | (simp; done), by first | exact trivial | (simp only [wf, wf1, sc, scL]; first | exact trivial | assumption | omega | (simp; done) | (simp; omega))⟩, ⟨by first | rfl | (refine congrArg (VV.int _) ?_; rw [wrap_i64 (by omega)]; omega) | (refine congrArg (VV.int _) ?_; omega) | (simp; done), by first | exact trivial | (simp only [wf, wf1, sc, scL]; first | exact trivial | assumption | omega | (simp; done) | (simp; omega))⟩, ⟨by first | rfl | (refine congrArg (VV.int _) ?_; rw [wrap_i64 (by omega)]; omega) | (refine congrArg (VV.int _) ?_; omega) | (simp; done), by first | exact trivial | (simp only [wf, wf1, sc, scL]; first | exact trivial | assumption | omega | (simp; done) | (simp; omega))⟩, ⟨by first | rfl | (refine congrArg (VV.int _) ?_; rw [wrap_i64 (by omega)]; omega) | (refine congrArg (VV.int _) ?_; omega) | (simp; done), by first | exact trivial | (simp only [wf, wf1, sc, scL]; first | exact trivial | assumption | omega | (simp; done) | (simp; omega))⟩, trivial⟩
      · have hk : keepB l0[j] = false := hk
        have hI' := hI.skip hj hk
        have hc' : cnt l0 (j + 1) = cnt l0 j := by
          unfold cnt; rw [take_succ_get hj, List.filter_append]; simp [hk]
        (repeat (first | with_reducible refine e_seq ?_ | with_reducible refine c_seq ?_ | with_reducible refine c_block ?_ | with_reducible refine c_skip ?_ | with_reducible refine c_exit ?_ | with_reducible refine c_ret ?_ | with_reducible refine e_seq_ret ?_ | with_reducible refine e_seq_exit ?_ | with_reducible refine e_block_ret ?_ | with_reducible refine e_block_exit ?_ | with_reducible refine e_block ?_ | with_reducible refine e_block_other rfl ?_ | with_reducible refine e_loop_exit ?_ | with_reducible refine e_loop_ret ?_ | ((with_reducible refine c_region (fun K' hK' => ?_)); (conv => whnf); (repeat (first | (refine And.intro rfl ?_; (conv => whnf)) | (refine And.intro (by decide) ?_; (conv => whnf)))); (with_reducible refine hK' _ _ ?_); clear hK' K')))
        rw [wrap_i64 (by omega)]
        refine e_loop (j + 1, d) hI' (by simp; omega) (StR_id (by simp) (by simp) ?_ ((ess_same (by simp) (by first | exact trivial | (simp [VObj.wf, scL, sc]; done) | exact wf_ro (by first | assumption | exact flatRb _ | exact flatH _ | exact flatE _ | exact flatRe _ | (repeat (first | exact FlatL.nil | refine FlatL.int ?_ | refine FlatL.bool ?_ | refine FlatL.str ?_)); done) | exact wf_row (by first | assumption | exact flatRb _ | exact flatH _ | exact flatE _ | exact flatRe _ | (repeat (first | exact FlatL.nil | refine FlatL.int ?_ | refine FlatL.bool ?_ | refine FlatL.str ?_)); done)) (by first | exact List.Mem.head _ | exact .tail _ (.head _) | exact .tail _ (.tail _ (.head _)) | exact .tail _ (.tail _ (.tail _ (.head _))) | exact .tail _ (.tail _ (.tail _ (.tail _ (.head _)))) | exact .tail _ (.tail _ (.tail _ (.tail _ (.tail _ (.head _))))) | exact .tail _ (.tail _ (.tail _ (.tail _ (.tail _ (.tail _ (.head _)))))) | exact .tail _ (.tail _ (.tail _ (.tail _ (.tail _ (.tail _ (.tail _ (.head _))))))) | exact .tail _ (.tail _ (.tail _ (.tail _ (.tail _ (.tail _ (.tail _ (.tail _ (.head _))))))))) trivial)) (by simp))
        simp only [hc']
        exact ⟨⟨by first | rfl | (refine congrArg (VV.int _) ?_; rw [wrap_i64 (by omega)]; omega) | (refine congrArg (VV.int _) ?_; omega) | (simp; done), by first | exact trivial | (simp only [wf, wf1, sc, scL]; first | exact trivial | assumption | omega | (simp; done) | (simp; omega))⟩, ⟨by first | rfl | (refine congrArg (VV.int _) ?_; rw [wrap_i64 (by omega)]; omega) | (refine congrArg (VV.int _) ?_; omega) | (simp; done), by first | exact trivial | (simp only [wf, wf1, sc, scL]; first | exact trivial | assumption | omega | (simp; done) | (simp; omega))⟩, ⟨by first | rfl | (refine congrArg (VV.int _) ?_; rw [wrap_i64 (by omega)]; omega) | (refine congrArg (VV.int _) ?_; omega) | (simp; done), by first | exact trivial | (simp only [wf, wf1, sc, scL]; first | exact trivial | assumption | omega | (simp; done) | (simp; omega))⟩, ⟨by first | rfl | (refine congrArg (VV.int _) ?_; rw [wrap_i64 (by omega)]; omega) | (refine congrArg (VV.int _) ?_; omega) | (simp; done), by first | exact trivial | (simp only [wf, wf1, sc, scL]; first | exact trivial | assumption | omega | (simp; done) | (simp; omega))⟩, trivial⟩
    · have hj : ¬ j < l0.length := by simpa using hj
      have hjl : j = l0.length := by have := hI.le; omega
      have hck : cnt l0 j = (l0.filter keepB).length := by unfold cnt; rw [hjl, List.take_length]
      have hdk : d = l0.filter keepB ++ d.drop (cnt l0 j) := by
        have := hI.tk
        rw [hjl, List.take_length] at this
        rw [hjl]
        conv => lhs; rw [← List.take_append_drop (cnt l0 l0.length) d, this]
      generalize hr : d.drop (cnt l0 j) = r at hdk
      have hrl : r.length = l0.length - cnt l0 j := by rw [← hr]; simp [hlen]
      (repeat (first | with_reducible refine e_seq ?_ | with_reducible refine c_seq ?_ | with_reducible refine c_block ?_ | with_reducible refine c_skip ?_ | with_reducible refine c_exit ?_ | with_reducible refine c_ret ?_ | with_reducible refine e_seq_ret ?_ | with_reducible refine e_seq_exit ?_ | with_reducible refine e_block_ret ?_ | with_reducible refine e_block_exit ?_ | with_reducible refine e_block ?_ | with_reducible refine e_block_other rfl ?_ | with_reducible refine e_loop_exit ?_ | with_reducible refine e_loop_ret ?_ | ((with_reducible refine c_region (fun K' hK' => ?_)); (conv => whnf); (repeat (first | (refine And.intro rfl ?_; (conv => whnf)) | (refine And.intro (by decide) ?_; (conv => whnf)))); (with_reducible refine hK' _ _ ?_); clear hK' K')))
      (with_reducible refine c_region (fun K' hK' => ?_)); (conv => whnf); (repeat (first | (refine And.intro rfl ?_; (conv => whnf)) | (refine And.intro (by decide) ?_; (conv => whnf))))
      refine ⟨by omega, ?_⟩
      (conv => whnf); (repeat (first | (refine And.intro rfl ?_; (conv => whnf)) | (refine And.intro (by decide) ?_; (conv => whnf))))
      refine offK_of (fun h => absurd h (by simp; omega)) (fun _ => ?_)
      (conv => whnf); (repeat (first | (refine And.intro rfl ?_; (conv => whnf)) | (refine And.intro (by decide) ?_; (conv => whnf))))
      refine sem_clear Try.tok rfl ?_
      (conv => whnf); (repeat (first | (refine And.intro rfl ?_; (conv => whnf)) | (refine And.intro (by decide) ?_; (conv => whnf))))
      refine ⟨fun h => absurd h (by simp; omega), fun _ => ⟨by simp, ?_⟩⟩
      (conv => whnf); (repeat (first | (refine And.intro rfl ?_; (conv => whnf)) | (refine And.intro (by decide) ?_; (conv => whnf))))
      have hrep : ∀ zs, zs = encEv zeroEv → repL zs (l0.length - ((cnt l0 j : Int)).toNat) = re (List.replicate (l0.length - cnt l0 j) zeroEv) := by
        intro zs hz
        rw [repL_rows (enc := encEv) (x := zeroEv) hz, nat_toNat]
      rw [hrep]
      case a => rfl
      refine writeK_of ?_ ?_
      · obtain ⟨hd, tl, hcs⟩ : ∃ hd tl, re (List.replicate (l0.length - cnt l0 j) zeroEv) = hd :: tl := rowsV_ne encEv_len (by omega) (by simp; omega)
        rw [hcs]; simp
      (conv => whnf); (repeat (first | (refine And.intro rfl ?_; (conv => whnf)) | (refine And.intro (by decide) ?_; (conv => whnf))))
      rw [hdk]
      refine putC_block encEv_len (by rw [hrl, List.length_replicate]) (by simp [hck]) ?_
      (conv => whnf); (repeat (first | (refine And.intro rfl ?_; (conv => whnf)) | (refine And.intro (by decide) ?_; (conv => whnf))))
      (with_reducible refine hK' _ _ ?_); clear hK' K'
      (repeat (first | with_reducible refine e_seq ?_ | with_reducible refine c_seq ?_ | with_reducible refine c_block ?_ | with_reducible refine c_skip ?_ | with_reducible refine c_exit ?_ | with_reducible refine c_ret ?_ | with_reducible refine e_seq_ret ?_ | with_reducible refine e_seq_exit ?_ | with_reducible refine e_block_ret ?_ | with_reducible refine e_block_exit ?_ | with_reducible refine e_block ?_ | with_reducible refine e_block_other rfl ?_ | with_reducible refine e_loop_exit ?_ | with_reducible refine e_loop_ret ?_ | ((with_reducible refine c_region (fun K' hK' => ?_)); (conv => whnf); (repeat (first | (refine And.intro rfl ?_; (conv => whnf)) | (refine And.intro (by decide) ?_; (conv => whnf)))); (with_reducible refine hK' _ _ ?_); clear hK' K')))
      (with_reducible refine c_region (fun K' hK' => ?_)); (conv => whnf); (repeat (first | (refine And.intro rfl ?_; (conv => whnf)) | (refine And.intro (by decide) ?_; (conv => whnf))))
      refine ⟨by omega, ?_⟩
      (conv => whnf); (repeat (first | (refine And.intro rfl ?_; (conv => whnf)) | (refine And.intro (by decide) ?_; (conv => whnf))))
      (with_reducible refine hK' _ _ ?_); clear hK' K'
      (repeat (first | with_reducible refine e_seq ?_ | with_reducible refine c_seq ?_ | with_reducible refine c_block ?_ | with_reducible refine c_skip ?_ | with_reducible refine c_exit ?_ | with_reducible refine c_ret ?_ | with_reducible refine e_seq_ret ?_ | with_reducible refine e_seq_exit ?_ | with_reducible refine e_block_ret ?_ | with_reducible refine e_block_exit ?_ | with_reducible refine e_block ?_ | with_reducible refine e_block_other rfl ?_ | with_reducible refine e_loop_exit ?_ | with_reducible refine e_loop_ret ?_ | ((with_reducible refine c_region (fun K' hK' => ?_)); (conv => whnf); (repeat (first | (refine And.intro rfl ?_; (conv => whnf)) | (refine And.intro (by decide) ?_; (conv => whnf)))); (with_reducible refine hK' _ _ ?_); clear hK' K')))
      refine ret_id (es := [(1, .row (re (l0.filter keepB ++ List.replicate (l0.length - cnt l0 j) zeroEv)) 41 (m + 1))]) (Nat.le_refl _) (by simp) (by simp [wf, wf1, sc]) ((ess_same (by simp) (by first | exact trivial | (simp [VObj.wf, scL, sc]; done) | exact wf_ro (by first | assumption | exact flatRb _ | exact flatH _ | exact flatE _ | exact flatRe _ | (repeat (first | exact FlatL.nil | refine FlatL.int ?_ | refine FlatL.bool ?_ | refine FlatL.str ?_)); done) | exact wf_row (by first | assumption | exact flatRb _ | exact flatH _ | exact flatE _ | exact flatRe _ | (repeat (first | exact FlatL.nil | refine FlatL.int ?_ | refine FlatL.bool ?_ | refine FlatL.str ?_)); done)) (by first | exact List.Mem.head _ | exact .tail _ (.head _) | exact .tail _ (.tail _ (.head _)) | exact .tail _ (.tail _ (.tail _ (.head _))) | exact .tail _ (.tail _ (.tail _ (.tail _ (.head _)))) | exact .tail _ (.tail _ (.tail _ (.tail _ (.tail _ (.head _))))) | exact .tail _ (.tail _ (.tail _ (.tail _ (.tail _ (.tail _ (.head _)))))) | exact .tail _ (.tail _ (.tail _ (.tail _ (.tail _ (.tail _ (.tail _ (.head _))))))) | exact .tail _ (.tail _ (.tail _ (.tail _ (.tail _ (.tail _ (.tail _ (.tail _ (.head _))))))))) trivial)) (by simp) ?_
      simp only [nat_toNat, hck]
      exact hK _
end Go.Proofs.Ytfphhdcpjoajbaa
