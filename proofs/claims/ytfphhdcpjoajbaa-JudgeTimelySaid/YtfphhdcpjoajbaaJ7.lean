import Derived.Test.YtfphhdcpjoajbaaJ6
namespace Go.Proofs.Ytfphhdcpjoajbaa
open Go.VM Go.RowKit
set_option linter.unusedSimpArgs false
set_option maxRecDepth 100000 in
theorem isNaN_spec (a : Int) (K : VV → Heap → Prop) (hK : K (.bool false) ⟨1, []⟩) : Gam Try.prog 34 [.int .i64 a] ⟨1, []⟩ K := by
  refine gam_enter Try.tok (by kernel_rfl) Try.func34 rfl rfl rfl ?_
  refine c_seq ?_
  (repeat (first | with_reducible refine e_seq ?_ | with_reducible refine c_seq ?_ | with_reducible refine c_block ?_ | with_reducible refine c_skip ?_ | with_reducible refine c_exit ?_ | with_reducible refine c_ret ?_ | with_reducible refine e_seq_ret ?_ | with_reducible refine e_seq_exit ?_ | with_reducible refine e_block_ret ?_ | with_reducible refine e_block_exit ?_ | with_reducible refine e_block ?_ | with_reducible refine e_block_other rfl ?_ | with_reducible refine e_loop_exit ?_ | with_reducible refine e_loop_ret ?_ | ((with_reducible refine c_region (fun K' hK' => ?_)); (conv => whnf); (repeat (refine And.intro rfl ?_; (conv => whnf))); (with_reducible refine hK' _ _ ?_); clear hK' K')))
  refine ret_id (es := []) (Nat.le_refl _) (Nat.le_refl _) trivial trivial (by simp) ?_
  simpa using hK
def cmpI (a b : Int) : Int := if a < b then -1 else if b < a then 1 else 0
set_option maxRecDepth 100000 in
theorem Compare_spec (a b : Int) (K : VV → Heap → Prop) (hK : K (.int .i64 (cmpI a b)) ⟨1, []⟩) : Gam Try.prog 31 [.int .i64 a, .int .i64 b] ⟨1, []⟩ K := by
  refine gam_enter Try.tok (by kernel_rfl) Try.func31 rfl rfl rfl ?_
  refine c_seq ?_
  (repeat (first | with_reducible refine e_seq ?_ | with_reducible refine c_seq ?_ | with_reducible refine c_block ?_ | with_reducible refine c_skip ?_ | with_reducible refine c_exit ?_ | with_reducible refine c_ret ?_ | with_reducible refine e_seq_ret ?_ | with_reducible refine e_seq_exit ?_ | with_reducible refine e_block_ret ?_ | with_reducible refine e_block_exit ?_ | with_reducible refine e_block ?_ | with_reducible refine e_block_other rfl ?_ | with_reducible refine e_loop_exit ?_ | with_reducible refine e_loop_ret ?_ | ((with_reducible refine c_region (fun K' hK' => ?_)); (conv => whnf); (repeat (refine And.intro rfl ?_; (conv => whnf))); (with_reducible refine hK' _ _ ?_); clear hK' K')))
  (with_reducible refine c_region (fun K' hK' => ?_)); (conv => whnf); (repeat (refine And.intro rfl ?_; (conv => whnf)))
  refine call0 (Nat.le_refl _) (fun _ => rfl) (by simp [wfArgs, wf, wf1, sc]) (isNaN_spec a _ ⟨⟨rfl, fun _ => rfl⟩, ?_⟩)
  (conv => whnf); (repeat (refine And.intro rfl ?_; (conv => whnf)))
  (with_reducible refine hK' _ _ ?_); clear hK' K'
  (repeat (first | with_reducible refine e_seq ?_ | with_reducible refine c_seq ?_ | with_reducible refine c_block ?_ | with_reducible refine c_skip ?_ | with_reducible refine c_exit ?_ | with_reducible refine c_ret ?_ | with_reducible refine e_seq_ret ?_ | with_reducible refine e_seq_exit ?_ | with_reducible refine e_block_ret ?_ | with_reducible refine e_block_exit ?_ | with_reducible refine e_block ?_ | with_reducible refine e_block_other rfl ?_ | with_reducible refine e_loop_exit ?_ | with_reducible refine e_loop_ret ?_ | ((with_reducible refine c_region (fun K' hK' => ?_)); (conv => whnf); (repeat (refine And.intro rfl ?_; (conv => whnf))); (with_reducible refine hK' _ _ ?_); clear hK' K')))
  (with_reducible refine c_region (fun K' hK' => ?_)); (conv => whnf); (repeat (refine And.intro rfl ?_; (conv => whnf)))
  refine call0 (Nat.le_refl _) (fun _ => rfl) (by simp [wfArgs, wf, wf1, sc]) (isNaN_spec b _ ⟨⟨rfl, fun _ => rfl⟩, ?_⟩)
  (conv => whnf); (repeat (refine And.intro rfl ?_; (conv => whnf)))
  (with_reducible refine hK' _ _ ?_); clear hK' K'
  (repeat (first | with_reducible refine e_seq ?_ | with_reducible refine c_seq ?_ | with_reducible refine c_block ?_ | with_reducible refine c_skip ?_ | with_reducible refine c_exit ?_ | with_reducible refine c_ret ?_ | with_reducible refine e_seq_ret ?_ | with_reducible refine e_seq_exit ?_ | with_reducible refine e_block_ret ?_ | with_reducible refine e_block_exit ?_ | with_reducible refine e_block ?_ | with_reducible refine e_block_other rfl ?_ | with_reducible refine e_loop_exit ?_ | with_reducible refine e_loop_ret ?_ | ((with_reducible refine c_region (fun K' hK' => ?_)); (conv => whnf); (repeat (refine And.intro rfl ?_; (conv => whnf))); (with_reducible refine hK' _ _ ?_); clear hK' K')))
  refine c_cond_f (by (conv => whnf) <;> rfl) ?_
  (repeat (first | with_reducible refine e_seq ?_ | with_reducible refine c_seq ?_ | with_reducible refine c_block ?_ | with_reducible refine c_skip ?_ | with_reducible refine c_exit ?_ | with_reducible refine c_ret ?_ | with_reducible refine e_seq_ret ?_ | with_reducible refine e_seq_exit ?_ | with_reducible refine e_block_ret ?_ | with_reducible refine e_block_exit ?_ | with_reducible refine e_block ?_ | with_reducible refine e_block_other rfl ?_ | with_reducible refine e_loop_exit ?_ | with_reducible refine e_loop_ret ?_ | ((with_reducible refine c_region (fun K' hK' => ?_)); (conv => whnf); (repeat (refine And.intro rfl ?_; (conv => whnf))); (with_reducible refine hK' _ _ ?_); clear hK' K')))
  refine c_cond_f (by (conv => whnf) <;> rfl) ?_
  (repeat (first | with_reducible refine e_seq ?_ | with_reducible refine c_seq ?_ | with_reducible refine c_block ?_ | with_reducible refine c_skip ?_ | with_reducible refine c_exit ?_ | with_reducible refine c_ret ?_ | with_reducible refine e_seq_ret ?_ | with_reducible refine e_seq_exit ?_ | with_reducible refine e_block_ret ?_ | with_reducible refine e_block_exit ?_ | with_reducible refine e_block ?_ | with_reducible refine e_block_other rfl ?_ | with_reducible refine e_loop_exit ?_ | with_reducible refine e_loop_ret ?_ | ((with_reducible refine c_region (fun K' hK' => ?_)); (conv => whnf); (repeat (refine And.intro rfl ?_; (conv => whnf))); (with_reducible refine hK' _ _ ?_); clear hK' K')))
  refine c_cond (by (conv => whnf) <;> rfl) (fun h1 => ?_) (fun h1 => ?_)
  · have h1 : a < b := by simpa using h1
    (repeat (first | with_reducible refine e_seq ?_ | with_reducible refine c_seq ?_ | with_reducible refine c_block ?_ | with_reducible refine c_skip ?_ | with_reducible refine c_exit ?_ | with_reducible refine c_ret ?_ | with_reducible refine e_seq_ret ?_ | with_reducible refine e_seq_exit ?_ | with_reducible refine e_block_ret ?_ | with_reducible refine e_block_exit ?_ | with_reducible refine e_block ?_ | with_reducible refine e_block_other rfl ?_ | with_reducible refine e_loop_exit ?_ | with_reducible refine e_loop_ret ?_ | ((with_reducible refine c_region (fun K' hK' => ?_)); (conv => whnf); (repeat (refine And.intro rfl ?_; (conv => whnf))); (with_reducible refine hK' _ _ ?_); clear hK' K')))
    refine ret_id (es := []) (Nat.le_refl _) (by simp) trivial trivial (by simp) ?_
    have e : cmpI a b = -1 := by simp [cmpI, h1]
    rw [e] at hK; exact hK
  · have h1 : ¬ a < b := by simpa using h1
    (repeat (first | with_reducible refine e_seq ?_ | with_reducible refine c_seq ?_ | with_reducible refine c_block ?_ | with_reducible refine c_skip ?_ | with_reducible refine c_exit ?_ | with_reducible refine c_ret ?_ | with_reducible refine e_seq_ret ?_ | with_reducible refine e_seq_exit ?_ | with_reducible refine e_block_ret ?_ | with_reducible refine e_block_exit ?_ | with_reducible refine e_block ?_ | with_reducible refine e_block_other rfl ?_ | with_reducible refine e_loop_exit ?_ | with_reducible refine e_loop_ret ?_ | ((with_reducible refine c_region (fun K' hK' => ?_)); (conv => whnf); (repeat (refine And.intro rfl ?_; (conv => whnf))); (with_reducible refine hK' _ _ ?_); clear hK' K')))
    refine c_cond (by (conv => whnf) <;> rfl) (fun h2 => ?_) (fun h2 => ?_)
    · have h2 : b < a := by simpa using h2
      (repeat (first | with_reducible refine e_seq ?_ | with_reducible refine c_seq ?_ | with_reducible refine c_block ?_ | with_reducible refine c_skip ?_ | with_reducible refine c_exit ?_ | with_reducible refine c_ret ?_ | with_reducible refine e_seq_ret ?_ | with_reducible refine e_seq_exit ?_ | with_reducible refine e_block_ret ?_ | with_reducible refine e_block_exit ?_ | with_reducible refine e_block ?_ | with_reducible refine e_block_other rfl ?_ | with_reducible refine e_loop_exit ?_ | with_reducible refine e_loop_ret ?_ | ((with_reducible refine c_region (fun K' hK' => ?_)); (conv => whnf); (repeat (refine And.intro rfl ?_; (conv => whnf))); (with_reducible refine hK' _ _ ?_); clear hK' K')))
      refine ret_id (es := []) (Nat.le_refl _) (by simp) trivial trivial (by simp) ?_
      have e : cmpI a b = 1 := by simp [cmpI, h1, h2]
      rw [e] at hK; exact hK
    · have h2 : ¬ b < a := by simpa using h2
      (repeat (first | with_reducible refine e_seq ?_ | with_reducible refine c_seq ?_ | with_reducible refine c_block ?_ | with_reducible refine c_skip ?_ | with_reducible refine c_exit ?_ | with_reducible refine c_ret ?_ | with_reducible refine e_seq_ret ?_ | with_reducible refine e_seq_exit ?_ | with_reducible refine e_block_ret ?_ | with_reducible refine e_block_exit ?_ | with_reducible refine e_block ?_ | with_reducible refine e_block_other rfl ?_ | with_reducible refine e_loop_exit ?_ | with_reducible refine e_loop_ret ?_ | ((with_reducible refine c_region (fun K' hK' => ?_)); (conv => whnf); (repeat (refine And.intro rfl ?_; (conv => whnf))); (with_reducible refine hK' _ _ ?_); clear hK' K')))
      refine ret_id (es := []) (Nat.le_refl _) (by simp) trivial trivial (by simp) ?_
      have e : cmpI a b = 0 := by simp [cmpI, h1, h2]
      rw [e] at hK; exact hK
set_option maxRecDepth 100000 in
theorem told2_spec (a b : Ev) (K : VV → Heap → Prop) (hK : K (.int .i64 (cmpI a.place b.place)) ⟨1, []⟩) : Gam Try.prog 30 [.agg (encEv a), .agg (encEv b)] ⟨1, []⟩ K := by
  refine gam_enter Try.tok (by kernel_rfl) Try.func30 rfl rfl rfl ?_
  refine c_seq ?_
  (repeat (first | with_reducible refine e_seq ?_ | with_reducible refine c_seq ?_ | with_reducible refine c_block ?_ | with_reducible refine c_skip ?_ | with_reducible refine c_exit ?_ | with_reducible refine c_ret ?_ | with_reducible refine e_seq_ret ?_ | with_reducible refine e_seq_exit ?_ | with_reducible refine e_block_ret ?_ | with_reducible refine e_block_exit ?_ | with_reducible refine e_block ?_ | with_reducible refine e_block_other rfl ?_ | with_reducible refine e_loop_exit ?_ | with_reducible refine e_loop_ret ?_ | ((with_reducible refine c_region (fun K' hK' => ?_)); (conv => whnf); (repeat (refine And.intro rfl ?_; (conv => whnf))); (with_reducible refine hK' _ _ ?_); clear hK' K')))
  (with_reducible refine c_region (fun K' hK' => ?_)); (conv => whnf); (repeat (refine And.intro rfl ?_; (conv => whnf)))
  refine call0 (by simp) (fun _ => rfl) (by simp [wfArgs, wf, wf1, sc]) (Compare_spec a.place b.place _ ⟨⟨rfl, fun _ => rfl⟩, ?_⟩)
  (conv => whnf); (repeat (refine And.intro rfl ?_; (conv => whnf)))
  (with_reducible refine hK' _ _ ?_); clear hK' K'
  (repeat (first | with_reducible refine e_seq ?_ | with_reducible refine c_seq ?_ | with_reducible refine c_block ?_ | with_reducible refine c_skip ?_ | with_reducible refine c_exit ?_ | with_reducible refine c_ret ?_ | with_reducible refine e_seq_ret ?_ | with_reducible refine e_seq_exit ?_ | with_reducible refine e_block_ret ?_ | with_reducible refine e_block_exit ?_ | with_reducible refine e_block ?_ | with_reducible refine e_block_other rfl ?_ | with_reducible refine e_loop_exit ?_ | with_reducible refine e_loop_ret ?_ | ((with_reducible refine c_region (fun K' hK' => ?_)); (conv => whnf); (repeat (refine And.intro rfl ?_; (conv => whnf))); (with_reducible refine hK' _ _ ?_); clear hK' K')))
  exact ret_id (es := []) (Nat.le_refl _) (by simp) trivial trivial (by simp) hK
end Go.Proofs.Ytfphhdcpjoajbaa
