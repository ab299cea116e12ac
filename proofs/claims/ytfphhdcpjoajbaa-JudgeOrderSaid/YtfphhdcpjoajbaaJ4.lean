import Derived.Test.YtfphhdcpjoajbaaJ3
namespace Go.Proofs.Ytfphhdcpjoajbaa
open Go.VM Go.RowKit
structure H32 where
  b : List UInt8
  len : b.length = 32
def encH (x : H32) : List VV := bytesV x.b
theorem encH_len (x : H32) : (encH x).length = 32 := by simp [encH, bytesV, x.len]
theorem encH_inj {x y : H32} : encH x = encH y ↔ x = y := by
  refine ⟨fun h => ?_, fun h => by rw [h]⟩
  cases x; cases y
  congr 1
  simp only [encH, bytesV] at h
  refine (List.map_inj_right (fun a b hab => ?_)).1 h
  simp only [VV.int.injEq, true_and] at hab
  exact UInt8.toNat_inj.1 (by omega)
instance : DecidableEq H32 := fun x y => decidable_of_iff (x.b = y.b) ⟨fun h => by cases x; cases y; cases h; rfl, fun h => by rw [h]⟩
theorem Try.mixed : Try.prog.follows .mixedOrders = true := by kernel_rfl
theorem flatH (x : H32) : FlatL (encH x) := .bytes x.b
abbrev rb (l : List H32) := rowsV encH l
theorem flatRb (l : List H32) : FlatL (rb l) := FlatL.rows flatH l
theorem rb_len (l : List H32) : (rb l).length = l.length * 32 := rowsV_length encH_len l
theorem rb_drop (l : List H32) (i : Nat) : (rb l).drop (i * 32) = rb (l.drop i) := rowsV_drop encH_len l i
theorem flatE (e : Ev) : FlatL (encEv e) := .int (.int (.str (.str (.int (.int (.int (.int (.int (.bool (.str (.int .nil)))))))))))
abbrev re (l : List Ev) := rowsV encEv l
theorem flatRe (l : List Ev) : FlatL (re l) := FlatL.rows flatE l
theorem re_len (l : List Ev) : (re l).length = l.length * 12 := rowsV_length encEv_len l
theorem E26 : EqTy Try.prog 26 4 (List.replicate 32 (LK.int .u8)) := ⟨by kernel_rfl, by decide, by kernel_rfl, by kernel_rfl, by kernel_rfl, by kernel_rfl⟩
theorem fitVV_bytes : ∀ l : List UInt8, FitVV (List.replicate l.length (LK.int .u8)) (bytesV l)
  | [] => .nil
  | b :: l => .cons ⟨rfl, by have := b.toNat_lt; simp only [Lit.wf, Bool.and_eq_true, decide_eq_true_eq]; exact ⟨by show (0 : Int) ≤ _; omega, by show _ ≤ (255 : Int); omega⟩⟩ (fitVV_bytes l)
theorem fitVV_H (x : H32) : FitVV (List.replicate 32 (LK.int .u8)) (encH x) := by have := fitVV_bytes x.b; rw [x.len] at this; exact this
set_option maxRecDepth 100000 in
theorem indexH_spec (l : List H32) (p : H32 → Bool) (off c : Nat) (g : FuncId) (caps : List VV) (rest : List (Nat × VObj)) (n : Nat) (hl : l.length < 4611686018427387904) (hn : 1 < n)
    (hcap : scL n caps) (hrest : ∀ e ∈ rest, e.1 < n ∧ e.2.wf n) (hwl : scL n (rowsV encH l)) (hnd : (((1, VObj.ro off (rowsV encH l)) :: rest).map Prod.fst).Nodup)
    (hp : ∀ e ∈ l, ∀ K : VV → Heap → Prop, K (.bool (p e)) ⟨n, (1, .ro off (rowsV encH l)) :: rest⟩ → Gam Try.prog g (.agg (encH e) :: caps) ⟨n, (1, .ro off (rowsV encH l)) :: rest⟩ K)
    (K : VV → Heap → Prop) (hK : K (.int .i64 (idxI p l)) ⟨n, (1, .ro off (rowsV encH l)) :: rest⟩) :
    Gam Try.prog 22 [.sl 1 off l.length c, .fn g caps] ⟨n, (1, .ro off (rowsV encH l)) :: rest⟩ K := by
  have hes : EsS n ((1, VObj.ro off (rowsV encH l)) :: rest) ((1, VObj.ro off (rowsV encH l)) :: rest) := EsS.refl (fun _ h => h) fun e he => by
    rcases List.mem_cons.1 he with rfl | he
    · exact ⟨hn, hwl⟩
    · exact hrest e he
  refine gam_enter Try.tok (by kernel_rfl) Try.func22 rfl rfl rfl ?_
  refine c_seq ?_
  (repeat (first | with_reducible refine e_seq ?_ | with_reducible refine c_seq ?_ | with_reducible refine c_block ?_ | with_reducible refine c_skip ?_ | with_reducible refine c_exit ?_ | with_reducible refine c_ret ?_ | with_reducible refine e_seq_ret ?_ | with_reducible refine e_seq_exit ?_ | with_reducible refine e_block_ret ?_ | with_reducible refine e_block_exit ?_ | with_reducible refine e_block ?_ | with_reducible refine e_block_other rfl ?_ | with_reducible refine e_loop_exit ?_ | with_reducible refine e_loop_ret ?_ | ((with_reducible refine c_region (fun K' hK' => ?_)); (conv => whnf); (repeat (first | (refine And.intro rfl ?_; (conv => whnf)) | (refine And.intro (by decide) ?_; (conv => whnf)))); (with_reducible refine hK' _ _ ?_); clear hK' K')))
  refine sem_loopX Try.tok (show 1 ≤ n by omega) (fun i => ((.sl 1 off l.length c :: .fn g caps :: .any :: .any :: .any :: .any :: .any :: .int .i64 l.length :: .int .i64 (i : Nat) :: .any :: .any :: .any :: .any :: .any :: .any :: .any :: .any :: .any :: .any :: []))) (fun _ => ⟨n, (1, .ro off (rowsV encH l)) :: rest⟩)
    (fun i => i ≤ l.length ∧ ∀ j (h : j < l.length), j < i → p l[j] = false) (fun i => l.length - i) 0 ?_ ?_ ?_
  · exact ⟨Nat.zero_le _, fun j _ h => absurd h (Nat.not_lt_zero _)⟩
  · exact StR_id (Nat.le_refl _) (Nat.le_refl _) (⟨⟨by first | rfl | (refine congrArg (VV.int _) ?_; rw [wrap_i64 (by omega)]; omega) | (refine congrArg (VV.int _) ?_; omega) | (simp; done), by first | exact trivial | (simp only [wf, wf1, sc, scL]; first | exact trivial | assumption | omega | (simp; done) | (simp; omega))⟩, ⟨by first | rfl | (refine congrArg (VV.int _) ?_; rw [wrap_i64 (by omega)]; omega) | (refine congrArg (VV.int _) ?_; omega) | (simp; done), by first | exact trivial | (simp only [wf, wf1, sc, scL]; first | exact trivial | assumption | omega | (simp; done) | (simp; omega))⟩, ⟨by first | rfl | (refine congrArg (VV.int _) ?_; rw [wrap_i64 (by omega)]; omega) | (refine congrArg (VV.int _) ?_; omega) | (simp; done), by first | exact trivial | (simp only [wf, wf1, sc, scL]; first | exact trivial | assumption | omega | (simp; done) | (simp; omega))⟩, ⟨by first | rfl | (refine congrArg (VV.int _) ?_; rw [wrap_i64 (by omega)]; omega) | (refine congrArg (VV.int _) ?_; omega) | (simp; done), by first | exact trivial | (simp only [wf, wf1, sc, scL]; first | exact trivial | assumption | omega | (simp; done) | (simp; omega))⟩, trivial⟩) hes hnd
  · rintro i ⟨hi, hb⟩
    (repeat (first | with_reducible refine e_seq ?_ | with_reducible refine c_seq ?_ | with_reducible refine c_block ?_ | with_reducible refine c_skip ?_ | with_reducible refine c_exit ?_ | with_reducible refine c_ret ?_ | with_reducible refine e_seq_ret ?_ | with_reducible refine e_seq_exit ?_ | with_reducible refine e_block_ret ?_ | with_reducible refine e_block_exit ?_ | with_reducible refine e_block ?_ | with_reducible refine e_block_other rfl ?_ | with_reducible refine e_loop_exit ?_ | with_reducible refine e_loop_ret ?_ | ((with_reducible refine c_region (fun K' hK' => ?_)); (conv => whnf); (repeat (first | (refine And.intro rfl ?_; (conv => whnf)) | (refine And.intro (by decide) ?_; (conv => whnf)))); (with_reducible refine hK' _ _ ?_); clear hK' K')))
    refine c_cond (by (conv => whnf) <;> rfl) (fun hc => ?_) (fun hc => ?_)
    · have hc : i < l.length := by simpa using hc
      obtain ⟨hd, tl, hcs⟩ : ∃ hd tl, rowsV encH l = hd :: tl := rowsV_ne encH_len (by omega) (by omega)
      (repeat (first | with_reducible refine e_seq ?_ | with_reducible refine c_seq ?_ | with_reducible refine c_block ?_ | with_reducible refine c_skip ?_ | with_reducible refine c_exit ?_ | with_reducible refine c_ret ?_ | with_reducible refine e_seq_ret ?_ | with_reducible refine e_seq_exit ?_ | with_reducible refine e_block_ret ?_ | with_reducible refine e_block_exit ?_ | with_reducible refine e_block ?_ | with_reducible refine e_block_other rfl ?_ | with_reducible refine e_loop_exit ?_ | with_reducible refine e_loop_ret ?_ | ((with_reducible refine c_region (fun K' hK' => ?_)); (conv => whnf); (repeat (first | (refine And.intro rfl ?_; (conv => whnf)) | (refine And.intro (by decide) ?_; (conv => whnf)))); (with_reducible refine hK' _ _ ?_); clear hK' K')))
      (with_reducible refine c_region (fun K' hK' => ?_)); (conv => whnf); (repeat (first | (refine And.intro rfl ?_; (conv => whnf)) | (refine And.intro (by decide) ?_; (conv => whnf))))
      refine ⟨by omega, ?_⟩
      rw [hcs]; (conv => whnf); rw [← hcs]
      refine ⟨by omega, ?_⟩
      refine takeC_rows' encH_len hc ?_ (by simp)
      (conv => whnf); (repeat (first | (refine And.intro rfl ?_; (conv => whnf)) | (refine And.intro (by decide) ?_; (conv => whnf))))
      refine hp _ (List.getElem_mem hc) _ ?_
      (conv => whnf); (repeat (first | (refine And.intro rfl ?_; (conv => whnf)) | (refine And.intro (by decide) ?_; (conv => whnf))))
      (with_reducible refine hK' _ _ ?_); clear hK' K'
      refine c_cond (by (conv => whnf) <;> rfl) (fun hr => ?_) (fun hr => ?_)
      · (repeat (first | with_reducible refine e_seq ?_ | with_reducible refine c_seq ?_ | with_reducible refine c_block ?_ | with_reducible refine c_skip ?_ | with_reducible refine c_exit ?_ | with_reducible refine c_ret ?_ | with_reducible refine e_seq_ret ?_ | with_reducible refine e_seq_exit ?_ | with_reducible refine e_block_ret ?_ | with_reducible refine e_block_exit ?_ | with_reducible refine e_block ?_ | with_reducible refine e_block_other rfl ?_ | with_reducible refine e_loop_exit ?_ | with_reducible refine e_loop_ret ?_ | ((with_reducible refine c_region (fun K' hK' => ?_)); (conv => whnf); (repeat (first | (refine And.intro rfl ?_; (conv => whnf)) | (refine And.intro (by decide) ?_; (conv => whnf)))); (with_reducible refine hK' _ _ ?_); clear hK' K')))
        refine ret_id (Nat.le_refl _) (Nat.le_refl _) trivial hes hnd ?_
        refine cast ?_ hK
        congr 2
        simp only [idxI, findIdx_first hc hr hb]
      · (repeat (first | with_reducible refine e_seq ?_ | with_reducible refine c_seq ?_ | with_reducible refine c_block ?_ | with_reducible refine c_skip ?_ | with_reducible refine c_exit ?_ | with_reducible refine c_ret ?_ | with_reducible refine e_seq_ret ?_ | with_reducible refine e_seq_exit ?_ | with_reducible refine e_block_ret ?_ | with_reducible refine e_block_exit ?_ | with_reducible refine e_block ?_ | with_reducible refine e_block_other rfl ?_ | with_reducible refine e_loop_exit ?_ | with_reducible refine e_loop_ret ?_ | ((with_reducible refine c_region (fun K' hK' => ?_)); (conv => whnf); (repeat (first | (refine And.intro rfl ?_; (conv => whnf)) | (refine And.intro (by decide) ?_; (conv => whnf)))); (with_reducible refine hK' _ _ ?_); clear hK' K')))
        refine e_loop (i + 1) ⟨hc, fun j hj hij => ?_⟩ (by omega) (StR_id (Nat.le_refl _) (Nat.le_refl _) (⟨⟨by first | rfl | (refine congrArg (VV.int _) ?_; rw [wrap_i64 (by omega)]; omega) | (refine congrArg (VV.int _) ?_; omega) | (simp; done), by first | exact trivial | (simp only [wf, wf1, sc, scL]; first | exact trivial | assumption | omega | (simp; done) | (simp; omega))⟩, ⟨by first | rfl | (refine congrArg (VV.int _) ?_; rw [wrap_i64 (by omega)]; omega) | (refine congrArg (VV.int _) ?_; omega) | (simp; done), by first | exact trivial | (simp only [wf, wf1, sc, scL]; first | exact trivial | assumption | omega | (simp; done) | (simp; omega))⟩, ⟨by first | rfl | (refine congrArg (VV.int _) ?_; rw [wrap_i64 (by omega)]; omega) | (refine congrArg (VV.int _) ?_; omega) | (simp; done), by first | exact trivial | (simp only [wf, wf1, sc, scL]; first | exact trivial | assumption | omega | (simp; done) | (simp; omega))⟩, ⟨by first | rfl | (refine congrArg (VV.int _) ?_; rw [wrap_i64 (by omega)]; omega) | (refine congrArg (VV.int _) ?_; omega) | (simp; done), by first | exact trivial | (simp only [wf, wf1, sc, scL]; first | exact trivial | assumption | omega | (simp; done) | (simp; omega))⟩, trivial⟩) hes hnd)
        by_cases hji : j = i
        · subst hji; exact hr
        · exact hb j hj (by omega)
    · have hc : ¬ i < l.length := by simpa using hc
      (repeat (first | with_reducible refine e_seq ?_ | with_reducible refine c_seq ?_ | with_reducible refine c_block ?_ | with_reducible refine c_skip ?_ | with_reducible refine c_exit ?_ | with_reducible refine c_ret ?_ | with_reducible refine e_seq_ret ?_ | with_reducible refine e_seq_exit ?_ | with_reducible refine e_block_ret ?_ | with_reducible refine e_block_exit ?_ | with_reducible refine e_block ?_ | with_reducible refine e_block_other rfl ?_ | with_reducible refine e_loop_exit ?_ | with_reducible refine e_loop_ret ?_ | ((with_reducible refine c_region (fun K' hK' => ?_)); (conv => whnf); (repeat (first | (refine And.intro rfl ?_; (conv => whnf)) | (refine And.intro (by decide) ?_; (conv => whnf)))); (with_reducible refine hK' _ _ ?_); clear hK' K')))
      refine ret_id (Nat.le_refl _) (Nat.le_refl _) trivial hes hnd ?_
      refine cast ?_ hK
      congr 2
      rw [idxI, List.findIdx?_eq_none_iff.2 ?_]
      intro x hx
      obtain ⟨j, hj, rfl⟩ := List.mem_iff_getElem.1 hx
      exact hb j hj (by omega)
set_option maxRecDepth 100000 in
theorem contH_spec (l : List H32) (p : H32 → Bool) (off c : Nat) (g : FuncId) (caps : List VV) (rest : List (Nat × VObj)) (n : Nat) (hl : l.length < 4611686018427387904) (hn : 1 < n)
    (hcap : scL n caps) (hrest : ∀ e ∈ rest, e.1 < n ∧ e.2.wf n) (hwl : scL n (rowsV encH l)) (hnd : (((1, VObj.ro off (rowsV encH l)) :: rest).map Prod.fst).Nodup)
    (hp : ∀ e ∈ l, ∀ K : VV → Heap → Prop, K (.bool (p e)) ⟨n, (1, .ro off (rowsV encH l)) :: rest⟩ → Gam Try.prog g (.agg (encH e) :: caps) ⟨n, (1, .ro off (rowsV encH l)) :: rest⟩ K)
    (K : VV → Heap → Prop) (hK : K (.bool (l.any p)) ⟨n, (1, .ro off (rowsV encH l)) :: rest⟩) :
    Gam Try.prog 14 [.sl 1 off l.length c, .fn g caps] ⟨n, (1, .ro off (rowsV encH l)) :: rest⟩ K := by
  have hes : EsS n ((1, VObj.ro off (rowsV encH l)) :: rest) ((1, VObj.ro off (rowsV encH l)) :: rest) := EsS.refl (fun _ h => h) fun e he => by
    rcases List.mem_cons.1 he with rfl | he
    · exact ⟨hn, hwl⟩
    · exact hrest e he
  refine gam_enter Try.tok (by kernel_rfl) Try.func14 rfl rfl rfl ?_
  refine c_seq ?_
  (repeat (first | with_reducible refine e_seq ?_ | with_reducible refine c_seq ?_ | with_reducible refine c_block ?_ | with_reducible refine c_skip ?_ | with_reducible refine c_exit ?_ | with_reducible refine c_ret ?_ | with_reducible refine e_seq_ret ?_ | with_reducible refine e_seq_exit ?_ | with_reducible refine e_block_ret ?_ | with_reducible refine e_block_exit ?_ | with_reducible refine e_block ?_ | with_reducible refine e_block_other rfl ?_ | with_reducible refine e_loop_exit ?_ | with_reducible refine e_loop_ret ?_ | ((with_reducible refine c_region (fun K' hK' => ?_)); (conv => whnf); (repeat (first | (refine And.intro rfl ?_; (conv => whnf)) | (refine And.intro (by decide) ?_; (conv => whnf)))); (with_reducible refine hK' _ _ ?_); clear hK' K')))
  (with_reducible refine c_region (fun K' hK' => ?_)); (conv => whnf); (repeat (first | (refine And.intro rfl ?_; (conv => whnf)) | (refine And.intro (by decide) ?_; (conv => whnf))))
  refine indexH_spec l p off c g caps rest n hl hn hcap hrest hwl hnd hp _ ?_
  (conv => whnf); (repeat (first | (refine And.intro rfl ?_; (conv => whnf)) | (refine And.intro (by decide) ?_; (conv => whnf))))
  (with_reducible refine hK' _ _ ?_); clear hK' K'
  (repeat (first | with_reducible refine e_seq ?_ | with_reducible refine c_seq ?_ | with_reducible refine c_block ?_ | with_reducible refine c_skip ?_ | with_reducible refine c_exit ?_ | with_reducible refine c_ret ?_ | with_reducible refine e_seq_ret ?_ | with_reducible refine e_seq_exit ?_ | with_reducible refine e_block_ret ?_ | with_reducible refine e_block_exit ?_ | with_reducible refine e_block ?_ | with_reducible refine e_block_other rfl ?_ | with_reducible refine e_loop_exit ?_ | with_reducible refine e_loop_ret ?_ | ((with_reducible refine c_region (fun K' hK' => ?_)); (conv => whnf); (repeat (first | (refine And.intro rfl ?_; (conv => whnf)) | (refine And.intro (by decide) ?_; (conv => whnf)))); (with_reducible refine hK' _ _ ?_); clear hK' K')))
  refine ret_id (Nat.le_refl _) (Nat.le_refl _) trivial hes hnd ?_
  refine cast ?_ hK
  congr 2
  rw [idxI_any]
set_option maxRecDepth 100000 in
theorem Index_spec (l : List H32) (v : H32) (off c : Nat) (hl : l.length < 4611686018427387904)
    (K : VV → Heap → Prop) (hK : K (.int .i64 (idxI (fun x => decide (v = x)) l)) ⟨2, [(1, .ro off (rowsV encH l))]⟩) :
    Gam Try.prog 23 [.sl 1 off l.length c, .agg (encH v)] ⟨2, [(1, .ro off (rowsV encH l))]⟩ K := by
  refine gam_enter Try.tok (by kernel_rfl) Try.func23 rfl rfl rfl ?_
  refine c_seq ?_
  (with_reducible refine c_region (fun K' hK' => ?_)); (conv => whnf); (repeat (first | (refine And.intro rfl ?_; (conv => whnf)) | (refine And.intro (by decide) ?_; (conv => whnf))))
  rw [encH_len]
  (with_reducible refine hK' _ _ ?_); clear hK' K'
  (repeat (first | with_reducible refine e_seq ?_ | with_reducible refine c_seq ?_ | with_reducible refine c_block ?_ | with_reducible refine c_skip ?_ | with_reducible refine c_exit ?_ | with_reducible refine c_ret ?_ | with_reducible refine e_seq_ret ?_ | with_reducible refine e_seq_exit ?_ | with_reducible refine e_block_ret ?_ | with_reducible refine e_block_exit ?_ | with_reducible refine e_block ?_ | with_reducible refine e_block_other rfl ?_ | with_reducible refine e_loop_exit ?_ | with_reducible refine e_loop_ret ?_ | ((with_reducible refine c_region (fun K' hK' => ?_)); (conv => whnf); (repeat (first | (refine And.intro rfl ?_; (conv => whnf)) | (refine And.intro (by decide) ?_; (conv => whnf)))); (with_reducible refine hK' _ _ ?_); clear hK' K')))
  have hwl : scL 3 (rowsV encH l) := (FlatL.rows flatH l).2 3
  have hwv : scL 3 (encH v) := (flatH v).2 3
  have hes : EsS 3 [(2, VObj.row (encH v) 26 32), (1, .ro off (rowsV encH l))] [(2, VObj.row (encH v) 26 32), (1, .ro off (rowsV encH l))] := EsS.refl (fun _ h => h) (by simp; exact ⟨hwv, hwl⟩)
  have hes' : EsS 2 [(2, VObj.row (encH v) 26 32), (1, .ro off (rowsV encH l))] [(1, .ro off (rowsV encH l))] := EsS.refl (by simp) (by simp; exact (FlatL.rows flatH l).2 2)
  refine sem_loopX Try.tok (show 1 ≤ 2 by omega) (fun i => ((.sl 1 off l.length c :: .any :: .any :: .ptr 2 0 :: .any :: .any :: .any :: .int .i64 l.length :: .int .i64 (i : Nat) :: .any :: .any :: .any :: .any :: .any :: .any :: .any :: .any :: .any :: .any :: []))) (fun _ => ⟨3, [(2, .row (encH v) 26 32), (1, .ro off (rowsV encH l))]⟩)
    (fun i => i ≤ l.length ∧ ∀ j (h : j < l.length), j < i → decide (v = l[j]) = false) (fun i => l.length - i) 0 ?_ ?_ ?_
  · exact ⟨Nat.zero_le _, fun j _ h => absurd h (Nat.not_lt_zero _)⟩
  · exact StR_id (Nat.le_succ _) (Nat.le_refl _) (⟨⟨by first | rfl | (refine congrArg (VV.int _) ?_; rw [wrap_i64 (by omega)]; omega) | (refine congrArg (VV.int _) ?_; omega) | (simp; done), by first | exact trivial | (simp only [wf, wf1, sc, scL]; first | exact trivial | assumption | omega | (simp; done) | (simp; omega))⟩, ⟨by first | rfl | (refine congrArg (VV.int _) ?_; rw [wrap_i64 (by omega)]; omega) | (refine congrArg (VV.int _) ?_; omega) | (simp; done), by first | exact trivial | (simp only [wf, wf1, sc, scL]; first | exact trivial | assumption | omega | (simp; done) | (simp; omega))⟩, ⟨by first | rfl | (refine congrArg (VV.int _) ?_; rw [wrap_i64 (by omega)]; omega) | (refine congrArg (VV.int _) ?_; omega) | (simp; done), by first | exact trivial | (simp only [wf, wf1, sc, scL]; first | exact trivial | assumption | omega | (simp; done) | (simp; omega))⟩, ⟨by first | rfl | (refine congrArg (VV.int _) ?_; rw [wrap_i64 (by omega)]; omega) | (refine congrArg (VV.int _) ?_; omega) | (simp; done), by first | exact trivial | (simp only [wf, wf1, sc, scL]; first | exact trivial | assumption | omega | (simp; done) | (simp; omega))⟩, trivial⟩) hes (by simp)
  · rintro i ⟨hi, hb⟩
    (repeat (first | with_reducible refine e_seq ?_ | with_reducible refine c_seq ?_ | with_reducible refine c_block ?_ | with_reducible refine c_skip ?_ | with_reducible refine c_exit ?_ | with_reducible refine c_ret ?_ | with_reducible refine e_seq_ret ?_ | with_reducible refine e_seq_exit ?_ | with_reducible refine e_block_ret ?_ | with_reducible refine e_block_exit ?_ | with_reducible refine e_block ?_ | with_reducible refine e_block_other rfl ?_ | with_reducible refine e_loop_exit ?_ | with_reducible refine e_loop_ret ?_ | ((with_reducible refine c_region (fun K' hK' => ?_)); (conv => whnf); (repeat (first | (refine And.intro rfl ?_; (conv => whnf)) | (refine And.intro (by decide) ?_; (conv => whnf)))); (with_reducible refine hK' _ _ ?_); clear hK' K')))
    refine c_cond (by (conv => whnf) <;> rfl) (fun hc => ?_) (fun hc => ?_)
    · have hc : i < l.length := by simpa using hc
      obtain ⟨hd, tl, hcs⟩ : ∃ hd tl, rowsV encH l = hd :: tl := rowsV_ne encH_len (by omega) (by omega)
      (repeat (first | with_reducible refine e_seq ?_ | with_reducible refine c_seq ?_ | with_reducible refine c_block ?_ | with_reducible refine c_skip ?_ | with_reducible refine c_exit ?_ | with_reducible refine c_ret ?_ | with_reducible refine e_seq_ret ?_ | with_reducible refine e_seq_exit ?_ | with_reducible refine e_block_ret ?_ | with_reducible refine e_block_exit ?_ | with_reducible refine e_block ?_ | with_reducible refine e_block_other rfl ?_ | with_reducible refine e_loop_exit ?_ | with_reducible refine e_loop_ret ?_ | ((with_reducible refine c_region (fun K' hK' => ?_)); (conv => whnf); (repeat (first | (refine And.intro rfl ?_; (conv => whnf)) | (refine And.intro (by decide) ?_; (conv => whnf)))); (with_reducible refine hK' _ _ ?_); clear hK' K')))
      refine c_draw' Try.tok Try.mixed (.take 0 (.take 1 (.take 2 (.take 3 (.take 4 (.eff 5 (.done))))))) [] (by kernel_rfl) (fun K' hK' => ?_); (conv => whnf); (repeat (first | (refine And.intro rfl ?_; (conv => whnf)) | (refine And.intro (by decide) ?_; (conv => whnf))))
      refine takeC_all (encH_len v) ?_
      (conv => whnf); (repeat (first | (refine And.intro rfl ?_; (conv => whnf)) | (refine And.intro (by decide) ?_; (conv => whnf))))
      refine ⟨by omega, ?_⟩
      rw [hcs]; (conv => whnf); rw [← hcs]
      refine ⟨by omega, ?_⟩
      refine takeC_rows' encH_len hc ?_ (by simp)
      (conv => whnf); (repeat (first | (refine And.intro rfl ?_; (conv => whnf)) | (refine And.intro (by decide) ?_; (conv => whnf))))
      refine sem_eqAgg Try.tok E26 rfl ?_
      (conv => whnf); (repeat (first | (refine And.intro rfl ?_; (conv => whnf)) | (refine And.intro (by decide) ?_; (conv => whnf))))
      refine ⟨fitVV_H _, fitVV_H _, fun r hr => ?_⟩
      have hr : r = decide (v = l[i]) := by
        rw [encH_inj] at hr
        cases r <;> simp_all
      subst hr
      (conv => whnf); (repeat (first | (refine And.intro rfl ?_; (conv => whnf)) | (refine And.intro (by decide) ?_; (conv => whnf))))
      (repeat (first | (refine And.intro rfl ?_; (conv => whnf)) | (refine And.intro (by decide) ?_; (conv => whnf))))
      (with_reducible refine hK' _ _ ?_); clear hK' K'
      refine c_cond (by (conv => whnf) <;> rfl) (fun hr => ?_) (fun hr => ?_)
      · (repeat (first | with_reducible refine e_seq ?_ | with_reducible refine c_seq ?_ | with_reducible refine c_block ?_ | with_reducible refine c_skip ?_ | with_reducible refine c_exit ?_ | with_reducible refine c_ret ?_ | with_reducible refine e_seq_ret ?_ | with_reducible refine e_seq_exit ?_ | with_reducible refine e_block_ret ?_ | with_reducible refine e_block_exit ?_ | with_reducible refine e_block ?_ | with_reducible refine e_block_other rfl ?_ | with_reducible refine e_loop_exit ?_ | with_reducible refine e_loop_ret ?_ | ((with_reducible refine c_region (fun K' hK' => ?_)); (conv => whnf); (repeat (first | (refine And.intro rfl ?_; (conv => whnf)) | (refine And.intro (by decide) ?_; (conv => whnf)))); (with_reducible refine hK' _ _ ?_); clear hK' K')))
        refine ret_id (Nat.le_refl _) (Nat.le_succ _) trivial hes' (by simp) ?_
        refine cast ?_ hK
        congr 2
        simp only [idxI, findIdx_first (p := fun x => decide (v = x)) hc hr hb]
      · (repeat (first | with_reducible refine e_seq ?_ | with_reducible refine c_seq ?_ | with_reducible refine c_block ?_ | with_reducible refine c_skip ?_ | with_reducible refine c_exit ?_ | with_reducible refine c_ret ?_ | with_reducible refine e_seq_ret ?_ | with_reducible refine e_seq_exit ?_ | with_reducible refine e_block_ret ?_ | with_reducible refine e_block_exit ?_ | with_reducible refine e_block ?_ | with_reducible refine e_block_other rfl ?_ | with_reducible refine e_loop_exit ?_ | with_reducible refine e_loop_ret ?_ | ((with_reducible refine c_region (fun K' hK' => ?_)); (conv => whnf); (repeat (first | (refine And.intro rfl ?_; (conv => whnf)) | (refine And.intro (by decide) ?_; (conv => whnf)))); (with_reducible refine hK' _ _ ?_); clear hK' K')))
        refine e_loop (i + 1) ⟨hc, fun j hj hij => ?_⟩ (by omega) (StR_id (Nat.le_succ _) (Nat.le_refl _) (⟨⟨by first | rfl | (refine congrArg (VV.int _) ?_; rw [wrap_i64 (by omega)]; omega) | (refine congrArg (VV.int _) ?_; omega) | (simp; done), by first | exact trivial | (simp only [wf, wf1, sc, scL]; first | exact trivial | assumption | omega | (simp; done) | (simp; omega))⟩, ⟨by first | rfl | (refine congrArg (VV.int _) ?_; rw [wrap_i64 (by omega)]; omega) | (refine congrArg (VV.int _) ?_; omega) | (simp; done), by first | exact trivial | (simp only [wf, wf1, sc, scL]; first | exact trivial | assumption | omega | (simp; done) | (simp; omega))⟩, ⟨by first | rfl | (refine congrArg (VV.int _) ?_; rw [wrap_i64 (by omega)]; omega) | (refine congrArg (VV.int _) ?_; omega) | (simp; done), by first | exact trivial | (simp only [wf, wf1, sc, scL]; first | exact trivial | assumption | omega | (simp; done) | (simp; omega))⟩, ⟨by first | rfl | (refine congrArg (VV.int _) ?_; rw [wrap_i64 (by omega)]; omega) | (refine congrArg (VV.int _) ?_; omega) | (simp; done), by first | exact trivial | (simp only [wf, wf1, sc, scL]; first | exact trivial | assumption | omega | (simp; done) | (simp; omega))⟩, trivial⟩) hes (by simp))
        by_cases hji : j = i
        · subst hji; exact hr
        · exact hb j hj (by omega)
    · have hc : ¬ i < l.length := by simpa using hc
      (repeat (first | with_reducible refine e_seq ?_ | with_reducible refine c_seq ?_ | with_reducible refine c_block ?_ | with_reducible refine c_skip ?_ | with_reducible refine c_exit ?_ | with_reducible refine c_ret ?_ | with_reducible refine e_seq_ret ?_ | with_reducible refine e_seq_exit ?_ | with_reducible refine e_block_ret ?_ | with_reducible refine e_block_exit ?_ | with_reducible refine e_block ?_ | with_reducible refine e_block_other rfl ?_ | with_reducible refine e_loop_exit ?_ | with_reducible refine e_loop_ret ?_ | ((with_reducible refine c_region (fun K' hK' => ?_)); (conv => whnf); (repeat (first | (refine And.intro rfl ?_; (conv => whnf)) | (refine And.intro (by decide) ?_; (conv => whnf)))); (with_reducible refine hK' _ _ ?_); clear hK' K')))
      refine ret_id (Nat.le_refl _) (Nat.le_succ _) trivial hes' (by simp) ?_
      refine cast ?_ hK
      congr 2
      rw [idxI, List.findIdx?_eq_none_iff.2 ?_]
      intro x hx
      obtain ⟨j, hj, rfl⟩ := List.mem_iff_getElem.1 hx
      exact hb j hj (by omega)
set_option maxRecDepth 100000 in
theorem Contains_spec (l : List H32) (v : H32) (off c : Nat) (hl : l.length < 4611686018427387904)
    (K : VV → Heap → Prop) (hK : K (.bool (decide (v ∈ l))) ⟨2, [(1, .ro off (rowsV encH l))]⟩) :
    Gam Try.prog 16 [.sl 1 off l.length c, .agg (encH v)] ⟨2, [(1, .ro off (rowsV encH l))]⟩ K := by
  have hwl : scL 2 (rowsV encH l) := (FlatL.rows flatH l).2 2
  refine gam_enter Try.tok (by kernel_rfl) Try.func16 rfl rfl rfl ?_
  refine c_seq ?_
  (with_reducible refine c_region (fun K' hK' => ?_)); (conv => whnf); (repeat (first | (refine And.intro rfl ?_; (conv => whnf)) | (refine And.intro (by decide) ?_; (conv => whnf))))
  rw [encH_len]
  (with_reducible refine hK' _ _ ?_); clear hK' K'
  (repeat (first | with_reducible refine e_seq ?_ | with_reducible refine c_seq ?_ | with_reducible refine c_block ?_ | with_reducible refine c_skip ?_ | with_reducible refine c_exit ?_ | with_reducible refine c_ret ?_ | with_reducible refine e_seq_ret ?_ | with_reducible refine e_seq_exit ?_ | with_reducible refine e_block_ret ?_ | with_reducible refine e_block_exit ?_ | with_reducible refine e_block ?_ | with_reducible refine e_block_other rfl ?_ | with_reducible refine e_loop_exit ?_ | with_reducible refine e_loop_ret ?_ | ((with_reducible refine c_region (fun K' hK' => ?_)); (conv => whnf); (repeat (first | (refine And.intro rfl ?_; (conv => whnf)) | (refine And.intro (by decide) ?_; (conv => whnf)))); (with_reducible refine hK' _ _ ?_); clear hK' K')))
  (with_reducible refine c_region (fun K' hK' => ?_)); (conv => whnf); (repeat (first | (refine And.intro rfl ?_; (conv => whnf)) | (refine And.intro (by decide) ?_; (conv => whnf))))
  refine takeC_all (encH_len v) ?_
  (conv => whnf); (repeat (first | (refine And.intro rfl ?_; (conv => whnf)) | (refine And.intro (by decide) ?_; (conv => whnf))))
  refine call_rule [1] (h := ⟨2, [(1, .ro off (rowsV encH l))]⟩) (args0 := [.sl 1 off l.length c, .agg (encH v)]) rfl (by simp [renL, ren, (flatH v).1, calT]) (by simp [wfArgs, wf, wf1, sc]; exact (flatH v).2 2) (by simp) (esr_ro (by simp) (FlatL.rows flatH l) (by simp [calT]) trivial) apart_one ?_
  refine Index_spec l v off c hl _ ?_
  intro r2 n2 es2 hr hn hes
  cases hr; cases hn; cases hes
  (conv => whnf); (repeat (first | (refine And.intro rfl ?_; (conv => whnf)) | (refine And.intro (by decide) ?_; (conv => whnf))))
  (with_reducible refine hK' _ _ ?_); clear hK' K'
  (repeat (first | with_reducible refine e_seq ?_ | with_reducible refine c_seq ?_ | with_reducible refine c_block ?_ | with_reducible refine c_skip ?_ | with_reducible refine c_exit ?_ | with_reducible refine c_ret ?_ | with_reducible refine e_seq_ret ?_ | with_reducible refine e_seq_exit ?_ | with_reducible refine e_block_ret ?_ | with_reducible refine e_block_exit ?_ | with_reducible refine e_block ?_ | with_reducible refine e_block_other rfl ?_ | with_reducible refine e_loop_exit ?_ | with_reducible refine e_loop_ret ?_ | ((with_reducible refine c_region (fun K' hK' => ?_)); (conv => whnf); (repeat (first | (refine And.intro rfl ?_; (conv => whnf)) | (refine And.intro (by decide) ?_; (conv => whnf)))); (with_reducible refine hK' _ _ ?_); clear hK' K')))
  have hes' : EsS 2 [(2, VObj.row (encH v) 26 32), (1, .ro off (rowsV encH l))] [(1, .ro off (rowsV encH l))] := EsS.refl (by simp) (by simp; exact (FlatL.rows flatH l).2 2)
  refine ret_id (Nat.le_refl _) (Nat.le_succ _) trivial hes' (by simp) ?_
  refine cast ?_ hK
  congr 2
  have := idxI_any (fun x => decide (v = x)) l
  rw [show decide (idxI (fun x => decide (v = x)) l ≥ 0) = decide (0 ≤ idxI (fun x => decide (v = x)) l) from rfl, this]
  rw [Bool.eq_iff_iff]
  simp
end Go.Proofs.Ytfphhdcpjoajbaa
