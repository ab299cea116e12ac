import Derived.Test.YtfphhdcpjoajbaaJ18
namespace Go.Proofs.Ytfphhdcpjoajbaa
open Go.VM Go.RowKit
def cutS (s : ByteArray) (n : Nat) : ByteArray := if n < s.size then s.extract 0 n else s
theorem cutS_size (s : ByteArray) (n : Nat) : (cutS s n).size ≤ n := by
  unfold cutS
  split
  · simp; omega
  · omega
set_option maxRecDepth 100000 in
theorem cut_spec (s : ByteArray) (n : Nat) (K : VV → Heap → Prop) (hK : K (.str (cutS s n)) ⟨1, []⟩) : Gam Try.prog 24 [.str s, .int .i64 n] ⟨1, []⟩ K := by
  refine gam_enter Try.tok (by kernel_rfl) Try.func24 rfl rfl rfl ?_
  conv => whnf
  refine cond_ways (fun hb => ?_) (fun hb => ?_)
  · have hb' : n < s.size := by simpa using hb
    rw [show cutS s n = s.extract 0 n by simp [cutS, hb']] at hK
    conv => whnf
    refine ⟨by omega, ?_⟩
    conv => whnf
    exact ret_plain rfl trivial hK
  · have hb' : ¬ n < s.size := by simpa using hb
    rw [show cutS s n = s by simp [cutS, hb']] at hK
    conv => whnf
    exact ret_plain rfl trivial hK
def cutOp (o : Op4) : Op4 := ⟨o.kind, cutS o.key 42, cutS o.val 1002, o.ver⟩
theorem cut_call (s : ByteArray) (n : Nat) (H : Heap) (hp : 1 ≤ H.n) (K : VV → Heap → Prop) (hK : K (.str (cutS s n)) H) : Gam Try.prog 24 [.str s, .int .i64 n] H K :=
  call0 hp (fun _ => rfl) (by simp [wfArgs, wf, wf1, sc]) (cut_spec s n _ ⟨⟨rfl, fun _ => rfl⟩, hK⟩)
set_option maxRecDepth 100000 in
theorem CutOp_spec (o : Op4) (K : VV → Heap → Prop) (hK : K (.agg (encOp (cutOp o))) ⟨1, []⟩) : Gam Try.prog 17 [.agg (encOp o)] ⟨1, []⟩ K := by
  refine gam_enter Try.tok (by kernel_rfl) Try.func17 rfl rfl rfl ?_
  refine c_seq ?_
  (repeat (first | with_reducible refine e_seq ?_ | with_reducible refine c_seq ?_ | with_reducible refine c_block ?_ | with_reducible refine c_skip ?_ | with_reducible refine c_exit ?_ | with_reducible refine c_ret ?_ | with_reducible refine e_seq_ret ?_ | with_reducible refine e_seq_exit ?_ | with_reducible refine e_block_ret ?_ | with_reducible refine e_block_exit ?_ | with_reducible refine e_block ?_ | with_reducible refine e_block_other rfl ?_ | with_reducible refine e_loop_exit ?_ | with_reducible refine e_loop_ret ?_ | ((with_reducible refine c_region (fun K' hK' => ?_)); (conv => whnf); (repeat (first | (refine And.intro rfl ?_; (conv => whnf)) | (refine And.intro (by decide) ?_; (conv => whnf)))); (with_reducible refine hK' _ _ ?_); clear hK' K')))
  refine c_draw' Try.tok Try.mixed (.take 0 (.take 3 (.eff2 1 4 (.eff2 2 4 (.eff 4 (.take 6 (.eff 5 (.eff 7 (.take 8 (.eff 9 (.done))))))) (.eff 2 (.take 6 (.eff 5 (.eff 7 (.take 8 (.eff 9 (.done)))))))) (.eff 1 (.eff 2 (.take 6 (.eff 5 (.eff 7 (.take 8 (.eff 9 (.done))))))))))) [1] (by kernel_rfl) (fun K' hK' => ?_); (conv => whnf); (repeat (first | (refine And.intro rfl ?_; (conv => whnf)) | (refine And.intro (by decide) ?_; (conv => whnf))))
  have key : ∀ (j3 j4 j5 j6 j7 j8 j9 j10 : VV), K' ((.agg (encOp o) :: .ptr 1 0 :: .ptr 2 0 :: j3 :: j4 :: j5 :: j6 :: j7 :: j8 :: j9 :: j10 :: .tup [] :: [])) ⟨3, [(2, .row [.int .i64 0, .str ⟨#[]⟩, .str ⟨#[]⟩, .int .i64 0] 36 4), (1, .row (encOp (cutOp o)) 36 4)]⟩ := by
    intro j3 j4 j5 j6 j7 j8 j9 j10
    (with_reducible refine hK' _ _ ?_); clear hK' K'
    (repeat (first | with_reducible refine e_seq ?_ | with_reducible refine c_seq ?_ | with_reducible refine c_block ?_ | with_reducible refine c_skip ?_ | with_reducible refine c_exit ?_ | with_reducible refine c_ret ?_ | with_reducible refine e_seq_ret ?_ | with_reducible refine e_seq_exit ?_ | with_reducible refine e_block_ret ?_ | with_reducible refine e_block_exit ?_ | with_reducible refine e_block ?_ | with_reducible refine e_block_other rfl ?_ | with_reducible refine e_loop_exit ?_ | with_reducible refine e_loop_ret ?_ | ((with_reducible refine c_region (fun K' hK' => ?_)); (conv => whnf); (repeat (first | (refine And.intro rfl ?_; (conv => whnf)) | (refine And.intro (by decide) ?_; (conv => whnf)))); (with_reducible refine hK' _ _ ?_); clear hK' K')))
    exact ret_id (es := []) (Nat.le_refl _) (by simp) (by simp [wf, wf1, scL, sc]) trivial (by simp) hK
  clear hK' hK
  refine ⟨?_, ?_⟩
  · (conv => whnf); (repeat (first | (refine And.intro rfl ?_; (conv => whnf)) | (refine And.intro (by decide) ?_; (conv => whnf))))
    refine ⟨?_, ?_⟩
    · (conv => whnf); (repeat (first | (refine And.intro rfl ?_; (conv => whnf)) | (refine And.intro (by decide) ?_; (conv => whnf))))
      refine cut_call o.key 42 _ (by simp) _ ?_
      (conv => whnf); (repeat (first | (refine And.intro rfl ?_; (conv => whnf)) | (refine And.intro (by decide) ?_; (conv => whnf))))
      refine cut_call o.val 1002 _ (by simp) _ ?_
      (conv => whnf); (repeat (first | (refine And.intro rfl ?_; (conv => whnf)) | (refine And.intro (by decide) ?_; (conv => whnf))))
      exact key _ _ _ _ _ _ _ _
    · (conv => whnf); (repeat (first | (refine And.intro rfl ?_; (conv => whnf)) | (refine And.intro (by decide) ?_; (conv => whnf))))
      refine cut_call o.key 42 _ (by simp) _ ?_
      (conv => whnf); (repeat (first | (refine And.intro rfl ?_; (conv => whnf)) | (refine And.intro (by decide) ?_; (conv => whnf))))
      refine cut_call o.val 1002 _ (by simp) _ ?_
      (conv => whnf); (repeat (first | (refine And.intro rfl ?_; (conv => whnf)) | (refine And.intro (by decide) ?_; (conv => whnf))))
      exact key _ _ _ _ _ _ _ _
  · (conv => whnf); (repeat (first | (refine And.intro rfl ?_; (conv => whnf)) | (refine And.intro (by decide) ?_; (conv => whnf))))
    refine cut_call o.key 42 _ (by simp) _ ?_
    (conv => whnf); (repeat (first | (refine And.intro rfl ?_; (conv => whnf)) | (refine And.intro (by decide) ?_; (conv => whnf))))
    refine cut_call o.val 1002 _ (by simp) _ ?_
    (conv => whnf); (repeat (first | (refine And.intro rfl ?_; (conv => whnf)) | (refine And.intro (by decide) ?_; (conv => whnf))))
    exact key _ _ _ _ _ _ _ _
def encEn (e : ByteArray × Rec3) : List VV := .str e.1 :: encRec e.2
theorem encEn_len (e : ByteArray × Rec3) : (encEn e).length = 4 := rfl
theorem flatEn (e : ByteArray × Rec3) : FlatL (encEn e) := .str (.int (.bool (.str .nil)))
abbrev rn (l : List (ByteArray × Rec3)) := rowsV encEn l
theorem flatRn (l : List (ByteArray × Rec3)) : FlatL (rn l) := FlatL.rows flatEn l
theorem rn_len (l : List (ByteArray × Rec3)) : (rn l).length = l.length * 4 := rowsV_length encEn_len l
set_option maxRecDepth 100000 in
theorem At_spec (M : List (ByteArray × Rec3)) (c : Nat) (key : ByteArray) (hM : M.length < 4611686018427387904)
    (K : VV → Heap → Prop) (hK : ∀ r : Int, (r = -1 ∨ ∃ i : Nat, i < M.length ∧ r = i) → K (.int .i64 r) ⟨3, [(1, .row [.sl 2 0 M.length c] 54 1), (2, .ro 0 (rn M))]⟩) :
    Gam Try.prog 25 [.ptr 1 0, .str key] ⟨3, [(1, .row [.sl 2 0 M.length c] 54 1), (2, .ro 0 (rn M))]⟩ K := by
  refine gam_enter Try.tok (by kernel_rfl) Try.func25 rfl rfl rfl ?_
  refine c_seq ?_
  (repeat (first | with_reducible refine e_seq ?_ | with_reducible refine c_seq ?_ | with_reducible refine c_block ?_ | with_reducible refine c_skip ?_ | with_reducible refine c_exit ?_ | with_reducible refine c_ret ?_ | with_reducible refine e_seq_ret ?_ | with_reducible refine e_seq_exit ?_ | with_reducible refine e_block_ret ?_ | with_reducible refine e_block_exit ?_ | with_reducible refine e_block ?_ | with_reducible refine e_block_other rfl ?_ | with_reducible refine e_loop_exit ?_ | with_reducible refine e_loop_ret ?_ | ((with_reducible refine c_region (fun K' hK' => ?_)); (conv => whnf); (repeat (first | (refine And.intro rfl ?_; (conv => whnf)) | (refine And.intro (by decide) ?_; (conv => whnf)))); (with_reducible refine hK' _ _ ?_); clear hK' K')))
  refine sem_loopX Try.tok (show 1 ≤ 3 by omega) (fun (i : Nat) => ((.ptr 1 0 :: .str key :: .any :: .any :: .any :: .int .i64 (i : Nat) :: .any :: .any :: .any :: .any :: .any :: .any :: .any :: .any :: .any :: .any :: .any :: .any :: .any :: .any :: .any :: .any :: .any :: .any :: .any :: .any :: []))) (fun _ => ⟨3, [(1, .row [.sl 2 0 M.length c] 54 1), (2, .ro 0 (rn M))]⟩)
    (fun i => i ≤ M.length) (fun i => M.length - i) 0 (Nat.zero_le _) ?_ ?_
  · exact StR_id (by simp) (Nat.le_refl _) (⟨⟨by first | rfl | (refine congrArg (VV.int _) ?_; rw [wrap_i64 (by omega)]; omega) | (refine congrArg (VV.int _) ?_; omega) | (simp; done), by first | exact trivial | (simp only [wf, wf1, sc, scL]; first | exact trivial | assumption | omega | (simp; done) | (simp; omega))⟩, ⟨by first | rfl | (refine congrArg (VV.int _) ?_; rw [wrap_i64 (by omega)]; omega) | (refine congrArg (VV.int _) ?_; omega) | (simp; done), by first | exact trivial | (simp only [wf, wf1, sc, scL]; first | exact trivial | assumption | omega | (simp; done) | (simp; omega))⟩, ⟨by first | rfl | (refine congrArg (VV.int _) ?_; rw [wrap_i64 (by omega)]; omega) | (refine congrArg (VV.int _) ?_; omega) | (simp; done), by first | exact trivial | (simp only [wf, wf1, sc, scL]; first | exact trivial | assumption | omega | (simp; done) | (simp; omega))⟩, trivial⟩) (ess_same (by simp) (by simp [VObj.wf, scL, sc]) (by first | exact List.Mem.head _ | exact .tail _ (.head _) | exact .tail _ (.tail _ (.head _)) | exact .tail _ (.tail _ (.tail _ (.head _))) | exact .tail _ (.tail _ (.tail _ (.tail _ (.head _)))) | exact .tail _ (.tail _ (.tail _ (.tail _ (.tail _ (.head _))))) | exact .tail _ (.tail _ (.tail _ (.tail _ (.tail _ (.tail _ (.head _)))))) | exact .tail _ (.tail _ (.tail _ (.tail _ (.tail _ (.tail _ (.tail _ (.head _))))))) | exact .tail _ (.tail _ (.tail _ (.tail _ (.tail _ (.tail _ (.tail _ (.tail _ (.head _))))))))) (ess_same (by simp) (wf_ro (flatRn _)) (by first | exact List.Mem.head _ | exact .tail _ (.head _) | exact .tail _ (.tail _ (.head _)) | exact .tail _ (.tail _ (.tail _ (.head _))) | exact .tail _ (.tail _ (.tail _ (.tail _ (.head _)))) | exact .tail _ (.tail _ (.tail _ (.tail _ (.tail _ (.head _))))) | exact .tail _ (.tail _ (.tail _ (.tail _ (.tail _ (.tail _ (.head _)))))) | exact .tail _ (.tail _ (.tail _ (.tail _ (.tail _ (.tail _ (.tail _ (.head _))))))) | exact .tail _ (.tail _ (.tail _ (.tail _ (.tail _ (.tail _ (.tail _ (.tail _ (.head _))))))))) trivial)) (by simp)
  intro i hi
  (repeat (first | with_reducible refine e_seq ?_ | with_reducible refine c_seq ?_ | with_reducible refine c_block ?_ | with_reducible refine c_skip ?_ | with_reducible refine c_exit ?_ | with_reducible refine c_ret ?_ | with_reducible refine e_seq_ret ?_ | with_reducible refine e_seq_exit ?_ | with_reducible refine e_block_ret ?_ | with_reducible refine e_block_exit ?_ | with_reducible refine e_block ?_ | with_reducible refine e_block_other rfl ?_ | with_reducible refine e_loop_exit ?_ | with_reducible refine e_loop_ret ?_ | ((with_reducible refine c_region (fun K' hK' => ?_)); (conv => whnf); (repeat (first | (refine And.intro rfl ?_; (conv => whnf)) | (refine And.intro (by decide) ?_; (conv => whnf)))); (with_reducible refine hK' _ _ ?_); clear hK' K')))
  refine c_cond (by (conv => whnf) <;> rfl) (fun hc => ?_) (fun hc => ?_)
  · have hc : i < M.length := by simpa using hc
    obtain ⟨hd, tl, hcs⟩ : ∃ hd tl, rn M = hd :: tl := rowsV_ne encEn_len (by omega) (by omega)
    (repeat (first | with_reducible refine e_seq ?_ | with_reducible refine c_seq ?_ | with_reducible refine c_block ?_ | with_reducible refine c_skip ?_ | with_reducible refine c_exit ?_ | with_reducible refine c_ret ?_ | with_reducible refine e_seq_ret ?_ | with_reducible refine e_seq_exit ?_ | with_reducible refine e_block_ret ?_ | with_reducible refine e_block_exit ?_ | with_reducible refine e_block ?_ | with_reducible refine e_block_other rfl ?_ | with_reducible refine e_loop_exit ?_ | with_reducible refine e_loop_ret ?_ | ((with_reducible refine c_region (fun K' hK' => ?_)); (conv => whnf); (repeat (first | (refine And.intro rfl ?_; (conv => whnf)) | (refine And.intro (by decide) ?_; (conv => whnf)))); (with_reducible refine hK' _ _ ?_); clear hK' K')))
    (with_reducible refine c_region (fun K' hK' => ?_)); (conv => whnf); (repeat (first | (refine And.intro rfl ?_; (conv => whnf)) | (refine And.intro (by decide) ?_; (conv => whnf))))
    refine ⟨by omega, ?_⟩
    rw [hcs]; (conv => whnf); rw [← hcs]
    refine ⟨by omega, ?_⟩
    refine getF_rows encEn_len (l := M) (i := i) (j := 0) (x := M[i]) (List.getElem?_eq_getElem hc) (v := .str M[i].1) rfl ?_ (by simp)
    (conv => whnf); (repeat (first | (refine And.intro rfl ?_; (conv => whnf)) | (refine And.intro (by decide) ?_; (conv => whnf))))
    (with_reducible refine hK' _ _ ?_); clear hK' K'
    refine c_cond (by (conv => whnf) <;> rfl) (fun hq => ?_) (fun hq => ?_)
    · (repeat (first | with_reducible refine e_seq ?_ | with_reducible refine c_seq ?_ | with_reducible refine c_block ?_ | with_reducible refine c_skip ?_ | with_reducible refine c_exit ?_ | with_reducible refine c_ret ?_ | with_reducible refine e_seq_ret ?_ | with_reducible refine e_seq_exit ?_ | with_reducible refine e_block_ret ?_ | with_reducible refine e_block_exit ?_ | with_reducible refine e_block ?_ | with_reducible refine e_block_other rfl ?_ | with_reducible refine e_loop_exit ?_ | with_reducible refine e_loop_ret ?_ | ((with_reducible refine c_region (fun K' hK' => ?_)); (conv => whnf); (repeat (first | (refine And.intro rfl ?_; (conv => whnf)) | (refine And.intro (by decide) ?_; (conv => whnf)))); (with_reducible refine hK' _ _ ?_); clear hK' K')))
      exact ret_id (es := [(1, .row [.sl 2 0 M.length c] 54 1), (2, .ro 0 (rn M))]) (Nat.le_refl _) (by simp) trivial (ess_same (by simp) (by simp [VObj.wf, scL, sc]) (by first | exact List.Mem.head _ | exact .tail _ (.head _) | exact .tail _ (.tail _ (.head _)) | exact .tail _ (.tail _ (.tail _ (.head _))) | exact .tail _ (.tail _ (.tail _ (.tail _ (.head _)))) | exact .tail _ (.tail _ (.tail _ (.tail _ (.tail _ (.head _))))) | exact .tail _ (.tail _ (.tail _ (.tail _ (.tail _ (.tail _ (.head _)))))) | exact .tail _ (.tail _ (.tail _ (.tail _ (.tail _ (.tail _ (.tail _ (.head _))))))) | exact .tail _ (.tail _ (.tail _ (.tail _ (.tail _ (.tail _ (.tail _ (.tail _ (.head _))))))))) (ess_same (by simp) (wf_ro (flatRn _)) (by first | exact List.Mem.head _ | exact .tail _ (.head _) | exact .tail _ (.tail _ (.head _)) | exact .tail _ (.tail _ (.tail _ (.head _))) | exact .tail _ (.tail _ (.tail _ (.tail _ (.head _)))) | exact .tail _ (.tail _ (.tail _ (.tail _ (.tail _ (.head _))))) | exact .tail _ (.tail _ (.tail _ (.tail _ (.tail _ (.tail _ (.head _)))))) | exact .tail _ (.tail _ (.tail _ (.tail _ (.tail _ (.tail _ (.tail _ (.head _))))))) | exact .tail _ (.tail _ (.tail _ (.tail _ (.tail _ (.tail _ (.tail _ (.tail _ (.head _))))))))) trivial)) (by simp) (hK _ (.inr ⟨i, hc, rfl⟩))
    · (repeat (first | with_reducible refine e_seq ?_ | with_reducible refine c_seq ?_ | with_reducible refine c_block ?_ | with_reducible refine c_skip ?_ | with_reducible refine c_exit ?_ | with_reducible refine c_ret ?_ | with_reducible refine e_seq_ret ?_ | with_reducible refine e_seq_exit ?_ | with_reducible refine e_block_ret ?_ | with_reducible refine e_block_exit ?_ | with_reducible refine e_block ?_ | with_reducible refine e_block_other rfl ?_ | with_reducible refine e_loop_exit ?_ | with_reducible refine e_loop_ret ?_ | ((with_reducible refine c_region (fun K' hK' => ?_)); (conv => whnf); (repeat (first | (refine And.intro rfl ?_; (conv => whnf)) | (refine And.intro (by decide) ?_; (conv => whnf)))); (with_reducible refine hK' _ _ ?_); clear hK' K')))
      rw [wrap_i64 (by omega)]
      exact e_loop (i + 1) hc (by omega) (StR_id (by simp) (Nat.le_refl _) (⟨⟨by first | rfl | (refine congrArg (VV.int _) ?_; rw [wrap_i64 (by omega)]; omega) | (refine congrArg (VV.int _) ?_; omega) | (simp; done), by first | exact trivial | (simp only [wf, wf1, sc, scL]; first | exact trivial | assumption | omega | (simp; done) | (simp; omega))⟩, ⟨by first | rfl | (refine congrArg (VV.int _) ?_; rw [wrap_i64 (by omega)]; omega) | (refine congrArg (VV.int _) ?_; omega) | (simp; done), by first | exact trivial | (simp only [wf, wf1, sc, scL]; first | exact trivial | assumption | omega | (simp; done) | (simp; omega))⟩, ⟨by first | rfl | (refine congrArg (VV.int _) ?_; rw [wrap_i64 (by omega)]; omega) | (refine congrArg (VV.int _) ?_; omega) | (simp; done), by first | exact trivial | (simp only [wf, wf1, sc, scL]; first | exact trivial | assumption | omega | (simp; done) | (simp; omega))⟩, trivial⟩) (ess_same (by simp) (by simp [VObj.wf, scL, sc]) (by first | exact List.Mem.head _ | exact .tail _ (.head _) | exact .tail _ (.tail _ (.head _)) | exact .tail _ (.tail _ (.tail _ (.head _))) | exact .tail _ (.tail _ (.tail _ (.tail _ (.head _)))) | exact .tail _ (.tail _ (.tail _ (.tail _ (.tail _ (.head _))))) | exact .tail _ (.tail _ (.tail _ (.tail _ (.tail _ (.tail _ (.head _)))))) | exact .tail _ (.tail _ (.tail _ (.tail _ (.tail _ (.tail _ (.tail _ (.head _))))))) | exact .tail _ (.tail _ (.tail _ (.tail _ (.tail _ (.tail _ (.tail _ (.tail _ (.head _))))))))) (ess_same (by simp) (wf_ro (flatRn _)) (by first | exact List.Mem.head _ | exact .tail _ (.head _) | exact .tail _ (.tail _ (.head _)) | exact .tail _ (.tail _ (.tail _ (.head _))) | exact .tail _ (.tail _ (.tail _ (.tail _ (.head _)))) | exact .tail _ (.tail _ (.tail _ (.tail _ (.tail _ (.head _))))) | exact .tail _ (.tail _ (.tail _ (.tail _ (.tail _ (.tail _ (.head _)))))) | exact .tail _ (.tail _ (.tail _ (.tail _ (.tail _ (.tail _ (.tail _ (.head _))))))) | exact .tail _ (.tail _ (.tail _ (.tail _ (.tail _ (.tail _ (.tail _ (.tail _ (.head _))))))))) trivial)) (by simp))
  · (repeat (first | with_reducible refine e_seq ?_ | with_reducible refine c_seq ?_ | with_reducible refine c_block ?_ | with_reducible refine c_skip ?_ | with_reducible refine c_exit ?_ | with_reducible refine c_ret ?_ | with_reducible refine e_seq_ret ?_ | with_reducible refine e_seq_exit ?_ | with_reducible refine e_block_ret ?_ | with_reducible refine e_block_exit ?_ | with_reducible refine e_block ?_ | with_reducible refine e_block_other rfl ?_ | with_reducible refine e_loop_exit ?_ | with_reducible refine e_loop_ret ?_ | ((with_reducible refine c_region (fun K' hK' => ?_)); (conv => whnf); (repeat (first | (refine And.intro rfl ?_; (conv => whnf)) | (refine And.intro (by decide) ?_; (conv => whnf)))); (with_reducible refine hK' _ _ ?_); clear hK' K')))
    exact ret_id (es := [(1, .row [.sl 2 0 M.length c] 54 1), (2, .ro 0 (rn M))]) (Nat.le_refl _) (by simp) trivial (ess_same (by simp) (by simp [VObj.wf, scL, sc]) (by first | exact List.Mem.head _ | exact .tail _ (.head _) | exact .tail _ (.tail _ (.head _)) | exact .tail _ (.tail _ (.tail _ (.head _))) | exact .tail _ (.tail _ (.tail _ (.tail _ (.head _)))) | exact .tail _ (.tail _ (.tail _ (.tail _ (.tail _ (.head _))))) | exact .tail _ (.tail _ (.tail _ (.tail _ (.tail _ (.tail _ (.head _)))))) | exact .tail _ (.tail _ (.tail _ (.tail _ (.tail _ (.tail _ (.tail _ (.head _))))))) | exact .tail _ (.tail _ (.tail _ (.tail _ (.tail _ (.tail _ (.tail _ (.tail _ (.head _))))))))) (ess_same (by simp) (wf_ro (flatRn _)) (by first | exact List.Mem.head _ | exact .tail _ (.head _) | exact .tail _ (.tail _ (.head _)) | exact .tail _ (.tail _ (.tail _ (.head _))) | exact .tail _ (.tail _ (.tail _ (.tail _ (.head _)))) | exact .tail _ (.tail _ (.tail _ (.tail _ (.tail _ (.head _))))) | exact .tail _ (.tail _ (.tail _ (.tail _ (.tail _ (.tail _ (.head _)))))) | exact .tail _ (.tail _ (.tail _ (.tail _ (.tail _ (.tail _ (.tail _ (.head _))))))) | exact .tail _ (.tail _ (.tail _ (.tail _ (.tail _ (.tail _ (.tail _ (.tail _ (.head _))))))))) trivial)) (by simp) (hK _ (.inl rfl))
end Go.Proofs.Ytfphhdcpjoajbaa
