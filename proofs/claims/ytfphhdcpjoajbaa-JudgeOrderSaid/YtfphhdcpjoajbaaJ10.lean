import Derived.Test.YtfphhdcpjoajbaaJ9
namespace Go.Proofs.Ytfphhdcpjoajbaa
open Go.VM Go.RowKit
theorem re_app (l t : List Ev) : re (l ++ t) = re l ++ re t := rowsV_append _ _ _
set_option maxRecDepth 100000 in
theorem told_spec (l : List Ev) (off c : Nat) (h0 : 0 < l.length) (hl : l.length < 20)
    (K : VV → Heap → Prop) (hK : ∀ l' c', l'.Perm (l.filter keepB) → SortedL l' → l'.length ≤ c' → K (.sl 2 0 l'.length c') ⟨3, [(2, .ro 0 (re l')), (1, .ro off (re l))]⟩) :
    Gam Try.prog 19 [.sl 1 off l.length c] ⟨2, [(1, .ro off (re l))]⟩ K := by
  refine gam_enter Try.tok (by kernel_rfl) Try.func19 rfl rfl rfl ?_
  refine c_seq ?_
  (repeat (first | with_reducible refine e_seq ?_ | with_reducible refine c_seq ?_ | with_reducible refine c_block ?_ | with_reducible refine c_skip ?_ | with_reducible refine c_exit ?_ | with_reducible refine c_ret ?_ | with_reducible refine e_seq_ret ?_ | with_reducible refine e_seq_exit ?_ | with_reducible refine e_block_ret ?_ | with_reducible refine e_block_exit ?_ | with_reducible refine e_block ?_ | with_reducible refine e_block_other rfl ?_ | with_reducible refine e_loop_exit ?_ | with_reducible refine e_loop_ret ?_ | ((with_reducible refine c_region (fun K' hK' => ?_)); (conv => whnf); (repeat (first | (refine And.intro rfl ?_; (conv => whnf)) | (refine And.intro (by decide) ?_; (conv => whnf)))); (with_reducible refine hK' _ _ ?_); clear hK' K')))
  (with_reducible refine c_region (fun K' hK' => ?_)); (conv => whnf); (repeat (first | (refine And.intro rfl ?_; (conv => whnf)) | (refine And.intro (by decide) ?_; (conv => whnf))))
  refine Clone_spec l off c h0 (by omega) _ fun c' m hc' => ?_
  (conv => whnf); (repeat (first | (refine And.intro rfl ?_; (conv => whnf)) | (refine And.intro (by decide) ?_; (conv => whnf))))
  refine call_rule [2] (h := ⟨2, [(1, .row (re l) 41 (m + 1))]⟩) (args0 := [.sl 1 0 l.length c', .fn 28 []]) rfl (by simp [renL, ren, calT]) (by simp [wfArgs, wf, wf1, sc, scL]) (by simp) (esr_row (by simp) (flatRe _) (List.Mem.head _) trivial) apart_one ?_
  refine Delete_spec l m c' (by omega) hc' _ fun t => ?_
  intro r2 n2 es2 hr hn hes
  have hes : es2 = [(2, .row (re (l.filter keepB ++ t)) 41 (m + 1)), (1, .ro off (re l))] := by
    rw [hes]; simp [renEs, remEs, ownIds, VObj.owned, VObj.ren, (flatRe _).1, calT]
  cases hr; cases hn; subst hes
  (conv => whnf); (repeat (first | (refine And.intro rfl ?_; (conv => whnf)) | (refine And.intro (by decide) ?_; (conv => whnf))))
  (with_reducible refine hK' _ _ ?_); clear hK' K'
  (repeat (first | with_reducible refine e_seq ?_ | with_reducible refine c_seq ?_ | with_reducible refine c_block ?_ | with_reducible refine c_skip ?_ | with_reducible refine c_exit ?_ | with_reducible refine c_ret ?_ | with_reducible refine e_seq_ret ?_ | with_reducible refine e_seq_exit ?_ | with_reducible refine e_block_ret ?_ | with_reducible refine e_block_exit ?_ | with_reducible refine e_block ?_ | with_reducible refine e_block_other rfl ?_ | with_reducible refine e_loop_exit ?_ | with_reducible refine e_loop_ret ?_ | ((with_reducible refine c_region (fun K' hK' => ?_)); (conv => whnf); (repeat (first | (refine And.intro rfl ?_; (conv => whnf)) | (refine And.intro (by decide) ?_; (conv => whnf)))); (with_reducible refine hK' _ _ ?_); clear hK' K')))
  (with_reducible refine c_region (fun K' hK' => ?_)); (conv => whnf); (repeat (first | (refine And.intro rfl ?_; (conv => whnf)) | (refine And.intro (by decide) ?_; (conv => whnf))))
  generalize hk : l.filter keepB = k at hK
  have hkl : k.length < 20 := by
    have := List.length_filter_le keepB l
    rw [hk] at this; omega
  refine call_rule [2] (h := evH k t m) (args0 := [.sl 1 0 k.length c', .fn 30 []]) rfl (by simp [renL, ren, calT]) (by simp [wfArgs, wf, wf1, sc, scL]) (by simp) (esr_row (by simp) (flatRe _) (List.Mem.head _) trivial) apart_one ?_
  refine SortStable_spec k t m c' hkl _ fun l' hp hs => ?_
  intro r2 n2 es2 hr hn hes
  have hes : es2 = [(2, .row (re (l' ++ t)) 41 (m + 1)), (1, .ro off (re l))] := by
    rw [hes]; simp [renEs, remEs, ownIds, VObj.owned, VObj.ren, (flatRe _).1, calT]
  cases hr; cases hn; subst hes
  (conv => whnf); (repeat (first | (refine And.intro rfl ?_; (conv => whnf)) | (refine And.intro (by decide) ?_; (conv => whnf))))
  (with_reducible refine hK' _ _ ?_); clear hK' K'
  (repeat (first | with_reducible refine e_seq ?_ | with_reducible refine c_seq ?_ | with_reducible refine c_block ?_ | with_reducible refine c_skip ?_ | with_reducible refine c_exit ?_ | with_reducible refine c_ret ?_ | with_reducible refine e_seq_ret ?_ | with_reducible refine e_seq_exit ?_ | with_reducible refine e_block_ret ?_ | with_reducible refine e_block_exit ?_ | with_reducible refine e_block ?_ | with_reducible refine e_block_other rfl ?_ | with_reducible refine e_loop_exit ?_ | with_reducible refine e_loop_ret ?_ | ((with_reducible refine c_region (fun K' hK' => ?_)); (conv => whnf); (repeat (first | (refine And.intro rfl ?_; (conv => whnf)) | (refine And.intro (by decide) ?_; (conv => whnf)))); (with_reducible refine hK' _ _ ?_); clear hK' K')))
  have hlen := hp.length_eq
  have hkl2 : k.length ≤ c' := by
    have := List.length_filter_le keepB l
    rw [hk] at this; omega
  have hh := hK l' c' hp hs (by omega)
  rw [hlen] at hh
  refine ⟨[2], .sl 2 0 k.length c', ⟨3, [(2, .ro 0 (re l')), (1, .ro off (re l))]⟩, rfl, by simp, by simp [ren, thet, calT], by simp [wf, wf1, sc], ⟨⟨by simp, wf_ro (flatRe _), _, List.Mem.head _, ?_⟩, esr_ro (by simp) (flatRe l) (by first | exact List.Mem.head _ | exact .tail _ (.head _) | exact .tail _ (.tail _ (.head _)) | exact .tail _ (.tail _ (.tail _ (.head _))) | exact .tail _ (.tail _ (.tail _ (.tail _ (.head _)))) | exact .tail _ (.tail _ (.tail _ (.tail _ (.tail _ (.head _))))) | exact .tail _ (.tail _ (.tail _ (.tail _ (.tail _ (.tail _ (.head _)))))) | exact .tail _ (.tail _ (.tail _ (.tail _ (.tail _ (.tail _ (.tail _ (.head _))))))) | exact .tail _ (.tail _ (.tail _ (.tail _ (.tail _ (.tail _ (.tail _ (.tail _ (.head _))))))))) trivial⟩, by simp [Apart, thet], hh⟩
  simp only [VObj.ren, (flatRe _).1]
  rw [re_app]
  exact cov_row_pre
set_option maxRecDepth 100000 in
theorem told_row (l : List Ev) (off c : Nat) (h0 : 0 < l.length) (hl : l.length < 20)
    (K : VV → Heap → Prop) (hK : ∀ l' t m c', l'.Perm (l.filter keepB) → SortedL l' → l'.length ≤ c' → K (.sl 2 0 l'.length c') ⟨3, [(2, .row (re (l' ++ t)) 41 (m + 1)), (1, .ro off (re l))]⟩) :
    Gam Try.prog 19 [.sl 1 off l.length c] ⟨2, [(1, .ro off (re l))]⟩ K := by
  refine gam_enter Try.tok (by kernel_rfl) Try.func19 rfl rfl rfl ?_
  refine c_seq ?_
  (repeat (first | with_reducible refine e_seq ?_ | with_reducible refine c_seq ?_ | with_reducible refine c_block ?_ | with_reducible refine c_skip ?_ | with_reducible refine c_exit ?_ | with_reducible refine c_ret ?_ | with_reducible refine e_seq_ret ?_ | with_reducible refine e_seq_exit ?_ | with_reducible refine e_block_ret ?_ | with_reducible refine e_block_exit ?_ | with_reducible refine e_block ?_ | with_reducible refine e_block_other rfl ?_ | with_reducible refine e_loop_exit ?_ | with_reducible refine e_loop_ret ?_ | ((with_reducible refine c_region (fun K' hK' => ?_)); (conv => whnf); (repeat (first | (refine And.intro rfl ?_; (conv => whnf)) | (refine And.intro (by decide) ?_; (conv => whnf)))); (with_reducible refine hK' _ _ ?_); clear hK' K')))
  (with_reducible refine c_region (fun K' hK' => ?_)); (conv => whnf); (repeat (first | (refine And.intro rfl ?_; (conv => whnf)) | (refine And.intro (by decide) ?_; (conv => whnf))))
  refine Clone_spec l off c h0 (by omega) _ fun c' m hc' => ?_
  (conv => whnf); (repeat (first | (refine And.intro rfl ?_; (conv => whnf)) | (refine And.intro (by decide) ?_; (conv => whnf))))
  refine call_rule [2] (h := ⟨2, [(1, .row (re l) 41 (m + 1))]⟩) (args0 := [.sl 1 0 l.length c', .fn 28 []]) rfl (by simp [renL, ren, calT]) (by simp [wfArgs, wf, wf1, sc, scL]) (by simp) (esr_row (by simp) (flatRe _) (List.Mem.head _) trivial) apart_one ?_
  refine Delete_spec l m c' (by omega) hc' _ fun t => ?_
  intro r2 n2 es2 hr hn hes
  have hes : es2 = [(2, .row (re (l.filter keepB ++ t)) 41 (m + 1)), (1, .ro off (re l))] := by
    rw [hes]; simp [renEs, remEs, ownIds, VObj.owned, VObj.ren, (flatRe _).1, calT]
  cases hr; cases hn; subst hes
  (conv => whnf); (repeat (first | (refine And.intro rfl ?_; (conv => whnf)) | (refine And.intro (by decide) ?_; (conv => whnf))))
  (with_reducible refine hK' _ _ ?_); clear hK' K'
  (repeat (first | with_reducible refine e_seq ?_ | with_reducible refine c_seq ?_ | with_reducible refine c_block ?_ | with_reducible refine c_skip ?_ | with_reducible refine c_exit ?_ | with_reducible refine c_ret ?_ | with_reducible refine e_seq_ret ?_ | with_reducible refine e_seq_exit ?_ | with_reducible refine e_block_ret ?_ | with_reducible refine e_block_exit ?_ | with_reducible refine e_block ?_ | with_reducible refine e_block_other rfl ?_ | with_reducible refine e_loop_exit ?_ | with_reducible refine e_loop_ret ?_ | ((with_reducible refine c_region (fun K' hK' => ?_)); (conv => whnf); (repeat (first | (refine And.intro rfl ?_; (conv => whnf)) | (refine And.intro (by decide) ?_; (conv => whnf)))); (with_reducible refine hK' _ _ ?_); clear hK' K')))
  (with_reducible refine c_region (fun K' hK' => ?_)); (conv => whnf); (repeat (first | (refine And.intro rfl ?_; (conv => whnf)) | (refine And.intro (by decide) ?_; (conv => whnf))))
  generalize hk : l.filter keepB = k at hK
  have hkl : k.length < 20 := by
    have := List.length_filter_le keepB l
    rw [hk] at this; omega
  refine call_rule [2] (h := evH k t m) (args0 := [.sl 1 0 k.length c', .fn 30 []]) rfl (by simp [renL, ren, calT]) (by simp [wfArgs, wf, wf1, sc, scL]) (by simp) (esr_row (by simp) (flatRe _) (List.Mem.head _) trivial) apart_one ?_
  refine SortStable_spec k t m c' hkl _ fun l' hp hs => ?_
  intro r2 n2 es2 hr hn hes
  have hes : es2 = [(2, .row (re (l' ++ t)) 41 (m + 1)), (1, .ro off (re l))] := by
    rw [hes]; simp [renEs, remEs, ownIds, VObj.owned, VObj.ren, (flatRe _).1, calT]
  cases hr; cases hn; subst hes
  (conv => whnf); (repeat (first | (refine And.intro rfl ?_; (conv => whnf)) | (refine And.intro (by decide) ?_; (conv => whnf))))
  (with_reducible refine hK' _ _ ?_); clear hK' K'
  (repeat (first | with_reducible refine e_seq ?_ | with_reducible refine c_seq ?_ | with_reducible refine c_block ?_ | with_reducible refine c_skip ?_ | with_reducible refine c_exit ?_ | with_reducible refine c_ret ?_ | with_reducible refine e_seq_ret ?_ | with_reducible refine e_seq_exit ?_ | with_reducible refine e_block_ret ?_ | with_reducible refine e_block_exit ?_ | with_reducible refine e_block ?_ | with_reducible refine e_block_other rfl ?_ | with_reducible refine e_loop_exit ?_ | with_reducible refine e_loop_ret ?_ | ((with_reducible refine c_region (fun K' hK' => ?_)); (conv => whnf); (repeat (first | (refine And.intro rfl ?_; (conv => whnf)) | (refine And.intro (by decide) ?_; (conv => whnf)))); (with_reducible refine hK' _ _ ?_); clear hK' K')))
  have hlen := hp.length_eq
  have hkl2 : k.length ≤ c' := by
    have := List.length_filter_le keepB l
    rw [hk] at this; omega
  have hh := hK l' t m c' hp hs (by omega)
  rw [hlen] at hh
  exact ⟨[2], .sl 2 0 k.length c', ⟨3, [(2, .row (re (l' ++ t)) 41 (m + 1)), (1, .ro off (re l))]⟩, rfl, by simp, by simp [ren, thet, calT], by simp [wf, wf1, sc], esr_row (by simp) (flatRe _) (by first | exact List.Mem.head _ | exact .tail _ (.head _) | exact .tail _ (.tail _ (.head _)) | exact .tail _ (.tail _ (.tail _ (.head _))) | exact .tail _ (.tail _ (.tail _ (.tail _ (.head _)))) | exact .tail _ (.tail _ (.tail _ (.tail _ (.tail _ (.head _))))) | exact .tail _ (.tail _ (.tail _ (.tail _ (.tail _ (.tail _ (.head _)))))) | exact .tail _ (.tail _ (.tail _ (.tail _ (.tail _ (.tail _ (.tail _ (.head _))))))) | exact .tail _ (.tail _ (.tail _ (.tail _ (.tail _ (.tail _ (.tail _ (.tail _ (.head _))))))))) (esr_ro (by simp) (flatRe l) (by first | exact List.Mem.head _ | exact .tail _ (.head _) | exact .tail _ (.tail _ (.head _)) | exact .tail _ (.tail _ (.tail _ (.head _))) | exact .tail _ (.tail _ (.tail _ (.tail _ (.head _)))) | exact .tail _ (.tail _ (.tail _ (.tail _ (.tail _ (.head _))))) | exact .tail _ (.tail _ (.tail _ (.tail _ (.tail _ (.tail _ (.head _)))))) | exact .tail _ (.tail _ (.tail _ (.tail _ (.tail _ (.tail _ (.tail _ (.head _))))))) | exact .tail _ (.tail _ (.tail _ (.tail _ (.tail _ (.tail _ (.tail _ (.tail _ (.head _))))))))) trivial), by simp [Apart, thet], hh⟩
end Go.Proofs.Ytfphhdcpjoajbaa
