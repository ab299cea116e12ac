import Derived.Test.YtfphhdcpjoajbaaJ2
namespace Go.Proofs.Ytfphhdcpjoajbaa
open Go.VM Go.RowKit
def idxI {A : Type} (p : A → Bool) (l : List A) : Int := match l.findIdx? p with
  | some i => (i : Int)
  | none => -1
theorem rowsV_ne {A : Type} {enc : A → List VV} {s : Nat} (he : ∀ x, (enc x).length = s) (hs : 0 < s) {l : List A} (hl : 0 < l.length) : ∃ hd tl, rowsV enc l = hd :: tl := by
  cases h : rowsV enc l with
  | nil =>
    have := rowsV_length he l
    rw [h] at this
    have h0 : 0 < l.length * s := Nat.mul_pos hl hs
    simp only [List.length_nil] at this
    omega
  | cons a t => exact ⟨a, t, rfl⟩
theorem findIdx_first {A : Type} {p : A → Bool} {l : List A} {i : Nat} (hi : i < l.length) (hp : p l[i] = true) (hb : ∀ j (h : j < l.length), j < i → p l[j] = false) : l.findIdx? p = some i := by
  rw [List.findIdx?_eq_some_iff_getElem]
  exact ⟨hi, hp, fun j hj => by simp [hb j (by omega) hj]⟩
theorem idxI_any {A : Type} (p : A → Bool) (l : List A) : decide (0 ≤ idxI p l) = l.any p := by
  unfold idxI
  cases h : l.findIdx? p with
  | some i =>
    have := (List.findIdx?_eq_some_iff_getElem.1 h)
    obtain ⟨h1, h2, _⟩ := this
    have h3 : l.any p = true := List.any_eq_true.2 ⟨_, List.getElem_mem h1, h2⟩
    rw [h3]; simp
  | none =>
    rw [List.findIdx?_eq_none_iff] at h
    have h3 : l.any p = false := by
      rw [List.any_eq_false]
      intro x hx; simp [h x hx]
    rw [h3]; simp
set_option maxRecDepth 100000 in
theorem indexE_spec (l : List Ev) (p : Ev → Bool) (off c : Nat) (g : FuncId) (caps : List VV) (rest : List (Nat × VObj)) (n : Nat) (hl : l.length < 4611686018427387904) (hn : 1 < n)
    (hcap : scL n caps) (hrest : ∀ e ∈ rest, e.1 < n ∧ e.2.wf n) (hwl : scL n (rowsV encEv l)) (hnd : (((1, VObj.ro off (rowsV encEv l)) :: rest).map Prod.fst).Nodup)
    (hp : ∀ e ∈ l, ∀ K : VV → Heap → Prop, K (.bool (p e)) ⟨n, (1, .ro off (rowsV encEv l)) :: rest⟩ → Gam Try.prog g (.agg (encEv e) :: caps) ⟨n, (1, .ro off (rowsV encEv l)) :: rest⟩ K)
    (K : VV → Heap → Prop) (hK : K (.int .i64 (idxI p l)) ⟨n, (1, .ro off (rowsV encEv l)) :: rest⟩) :
    Gam Try.prog 32 [.sl 1 off l.length c, .fn g caps] ⟨n, (1, .ro off (rowsV encEv l)) :: rest⟩ K := by
  have hes : EsS n ((1, VObj.ro off (rowsV encEv l)) :: rest) ((1, VObj.ro off (rowsV encEv l)) :: rest) := EsS.refl (fun _ h => h) fun e he => by
    rcases List.mem_cons.1 he with rfl | he
    · exact ⟨hn, hwl⟩
    · exact hrest e he
  refine gam_enter Try.tok (by kernel_rfl) Try.func32 rfl rfl rfl ?_
  refine c_seq ?_
  (repeat (first | with_reducible refine e_seq ?_ | with_reducible refine c_seq ?_ | with_reducible refine c_block ?_ | with_reducible refine c_skip ?_ | with_reducible refine c_exit ?_ | with_reducible refine c_ret ?_ | with_reducible refine e_seq_ret ?_ | with_reducible refine e_seq_exit ?_ | with_reducible refine e_block_ret ?_ | with_reducible refine e_block_exit ?_ | with_reducible refine e_block ?_ | with_reducible refine e_block_other rfl ?_ | with_reducible refine e_loop_exit ?_ | with_reducible refine e_loop_ret ?_ | ((with_reducible refine c_region (fun K' hK' => ?_)); (conv => whnf); (repeat (first | (refine And.intro rfl ?_; (conv => whnf)) | (refine And.intro (by decide) ?_; (conv => whnf)))); (with_reducible refine hK' _ _ ?_); clear hK' K')))
  refine sem_loopX Try.tok (show 1 ≤ n by omega) (fun i => ((.sl 1 off l.length c :: .fn g caps :: .any :: .any :: .any :: .any :: .any :: .int .i64 l.length :: .int .i64 (i : Nat) :: .any :: .any :: .any :: .any :: .any :: .any :: .any :: .any :: .any :: .any :: []))) (fun _ => ⟨n, (1, .ro off (rowsV encEv l)) :: rest⟩)
    (fun i => i ≤ l.length ∧ ∀ j (h : j < l.length), j < i → p l[j] = false) (fun i => l.length - i) 0 ?_ ?_ ?_
  · exact ⟨Nat.zero_le _, fun j _ h => absurd h (Nat.not_lt_zero _)⟩
  · exact StR_id (Nat.le_refl _) (Nat.le_refl _) (⟨⟨by first | rfl | (refine congrArg (VV.int _) ?_; rw [wrap_i64 (by omega)]; omega) | (refine congrArg (VV.int _) ?_; omega) | (simp; done), by first | exact trivial | (simp only [wf, wf1, sc, scL]; first | exact trivial | assumption | omega | (simp; done) | (simp; omega))⟩, ⟨by first | rfl | (refine congrArg (VV.int _) ?_; rw [wrap_i64 (by omega)]; omega) | (refine congrArg (VV.int _) ?_; omega) | (simp; done), by first | exact trivial | (simp only [wf, wf1, sc, scL]; first | exact trivial | assumption | omega | (simp; done) | (simp; omega))⟩, ⟨by first | rfl | (refine congrArg (VV.int _) ?_; rw [wrap_i64 (by omega)]; omega) | (refine congrArg (VV.int _) ?_; omega) | (simp; done), by first | exact trivial | (simp only [wf, wf1, sc, scL]; first | exact trivial | assumption | omega | (simp; done) | (simp; omega))⟩, ⟨by first | rfl | (refine congrArg (VV.int _) ?_; rw [wrap_i64 (by omega)]; omega) | (refine congrArg (VV.int _) ?_; omega) | (simp; done), by first | exact trivial | (simp only [wf, wf1, sc, scL]; first | exact trivial | assumption | omega | (simp; done) | (simp; omega))⟩, trivial⟩) hes hnd
  · rintro i ⟨hi, hb⟩
    (repeat (first | with_reducible refine e_seq ?_ | with_reducible refine c_seq ?_ | with_reducible refine c_block ?_ | with_reducible refine c_skip ?_ | with_reducible refine c_exit ?_ | with_reducible refine c_ret ?_ | with_reducible refine e_seq_ret ?_ | with_reducible refine e_seq_exit ?_ | with_reducible refine e_block_ret ?_ | with_reducible refine e_block_exit ?_ | with_reducible refine e_block ?_ | with_reducible refine e_block_other rfl ?_ | with_reducible refine e_loop_exit ?_ | with_reducible refine e_loop_ret ?_ | ((with_reducible refine c_region (fun K' hK' => ?_)); (conv => whnf); (repeat (first | (refine And.intro rfl ?_; (conv => whnf)) | (refine And.intro (by decide) ?_; (conv => whnf)))); (with_reducible refine hK' _ _ ?_); clear hK' K')))
    refine c_cond (by (conv => whnf) <;> rfl) (fun hc => ?_) (fun hc => ?_)
    · have hc : i < l.length := by simpa using hc
      obtain ⟨hd, tl, hcs⟩ : ∃ hd tl, rowsV encEv l = hd :: tl := rowsV_ne encEv_len (by omega) (by omega)
      (repeat (first | with_reducible refine e_seq ?_ | with_reducible refine c_seq ?_ | with_reducible refine c_block ?_ | with_reducible refine c_skip ?_ | with_reducible refine c_exit ?_ | with_reducible refine c_ret ?_ | with_reducible refine e_seq_ret ?_ | with_reducible refine e_seq_exit ?_ | with_reducible refine e_block_ret ?_ | with_reducible refine e_block_exit ?_ | with_reducible refine e_block ?_ | with_reducible refine e_block_other rfl ?_ | with_reducible refine e_loop_exit ?_ | with_reducible refine e_loop_ret ?_ | ((with_reducible refine c_region (fun K' hK' => ?_)); (conv => whnf); (repeat (first | (refine And.intro rfl ?_; (conv => whnf)) | (refine And.intro (by decide) ?_; (conv => whnf)))); (with_reducible refine hK' _ _ ?_); clear hK' K')))
      (with_reducible refine c_region (fun K' hK' => ?_)); (conv => whnf); (repeat (first | (refine And.intro rfl ?_; (conv => whnf)) | (refine And.intro (by decide) ?_; (conv => whnf))))
      refine ⟨by omega, ?_⟩
      rw [hcs]; (conv => whnf); rw [← hcs]
      refine ⟨by omega, ?_⟩
      refine takeC_rows' encEv_len hc ?_ (by simp)
      (conv => whnf); (repeat (first | (refine And.intro rfl ?_; (conv => whnf)) | (refine And.intro (by decide) ?_; (conv => whnf))))
      refine hp _ (List.getElem_mem hc) _ ?_
      (conv => whnf); (repeat (first | (refine And.intro rfl ?_; (conv => whnf)) | (refine And.intro (by decide) ?_; (conv => whnf))))
      (with_reducible refine hK' _ _ ?_); clear hK' K'
      refine c_cond (by (conv => whnf) <;> rfl) (fun hr => ?_) (fun hr => ?_)
      · (repeat (first | with_reducible refine e_seq ?_ | with_reducible refine c_seq ?_ | with_reducible refine c_block ?_ | with_reducible refine c_skip ?_ | with_reducible refine c_exit ?_ | with_reducible refine c_ret ?_ | with_reducible refine e_seq_ret ?_ | with_reducible refine e_seq_exit ?_ | with_reducible refine e_block_ret ?_ | with_reducible refine e_block_exit ?_ | with_reducible refine e_block ?_ | with_reducible refine e_block_other rfl ?_ | with_reducible refine e_loop_exit ?_ | with_reducible refine e_loop_ret ?_ | ((with_reducible refine c_region (fun K' hK' => ?_)); (conv => whnf); (repeat (first | (refine And.intro rfl ?_; (conv => whnf)) | (refine And.intro (by decide) ?_; (conv => whnf)))); (with_reducible refine hK' _ _ ?_); clear hK' K')))
        refine ret_id (Nat.le_refl _) (Nat.le_refl _) trivial hes hnd ?_
        refine cast ?_ hK
        congr 2
        simp only [idxI, findIdx_first hc hr hb]
      · (repeat (first | with_reducible refine e_seq ?_ | with_reducible refine c_seq ?_ | with_reducible refine c_block ?_ | with_reducible refine c_skip ?_ | with_reducible refine c_exit ?_ | with_reducible refine c_ret ?_ | with_reducible refine e_seq_ret ?_ | with_reducible refine e_seq_exit ?_ | with_reducible refine e_block_ret ?_ | with_reducible refine e_block_exit ?_ | with_reducible refine e_block ?_ | with_reducible refine e_block_other rfl ?_ | with_reducible refine e_loop_exit ?_ | with_reducible refine e_loop_ret ?_ | ((with_reducible refine c_region (fun K' hK' => ?_)); (conv => whnf); (repeat (first | (refine And.intro rfl ?_; (conv => whnf)) | (refine And.intro (by decide) ?_; (conv => whnf)))); (with_reducible refine hK' _ _ ?_); clear hK' K')))
        refine e_loop (i + 1) ⟨hc, fun j hj hij => ?_⟩ (by omega) (StR_id (Nat.le_refl _) (Nat.le_refl _) (⟨⟨by first | rfl | (refine congrArg (VV.int _) ?_; rw [wrap_i64 (by omega)]; omega) | (refine congrArg (VV.int _) ?_; omega) | (simp; done), by first | exact trivial | (simp only [wf, wf1, sc, scL]; first | exact trivial | assumption | omega | (simp; done) | (simp; omega))⟩, ⟨by first | rfl | (refine congrArg (VV.int _) ?_; rw [wrap_i64 (by omega)]; omega) | (refine congrArg (VV.int _) ?_; omega) | (simp; done), by first | exact trivial | (simp only [wf, wf1, sc, scL]; first | exact trivial | assumption | omega | (simp; done) | (simp; omega))⟩, ⟨by first | rfl | (refine congrArg (VV.int _) ?_; rw [wrap_i64 (by omega)]; omega) | (refine congrArg (VV.int _) ?_; omega) | (simp; done), by first | exact trivial | (simp only [wf, wf1, sc, scL]; first | exact trivial | assumption | omega | (simp; done) | (simp; omega))⟩, ⟨by first | rfl | (refine congrArg (VV.int _) ?_; rw [wrap_i64 (by omega)]; omega) | (refine congrArg (VV.int _) ?_; omega) | (simp; done), by first | exact trivial | (simp only [wf, wf1, sc, scL]; first | exact trivial | assumption | omega | (simp; done) | (simp; omega))⟩, trivial⟩) hes hnd)
        by_cases hji : j = i
        · subst hji; exact hr
        · exact hb j hj (by omega)
    · have hc : ¬ i < l.length := by simpa using hc
      (repeat (first | with_reducible refine e_seq ?_ | with_reducible refine c_seq ?_ | with_reducible refine c_block ?_ | with_reducible refine c_skip ?_ | with_reducible refine c_exit ?_ | with_reducible refine c_ret ?_ | with_reducible refine e_seq_ret ?_ | with_reducible refine e_seq_exit ?_ | with_reducible refine e_block_ret ?_ | with_reducible refine e_block_exit ?_ | with_reducible refine e_block ?_ | with_reducible refine e_block_other rfl ?_ | with_reducible refine e_loop_exit ?_ | with_reducible refine e_loop_ret ?_ | ((with_reducible refine c_region (fun K' hK' => ?_)); (conv => whnf); (repeat (first | (refine And.intro rfl ?_; (conv => whnf)) | (refine And.intro (by decide) ?_; (conv => whnf)))); (with_reducible refine hK' _ _ ?_); clear hK' K')))
      refine ret_id (Nat.le_refl _) (Nat.le_refl _) trivial hes hnd ?_
      refine cast ?_ hK
      congr 2
      rw [idxI, List.findIdx?_eq_none_iff.2 ?_]
      intro x hx
      obtain ⟨j, hj, rfl⟩ := List.mem_iff_getElem.1 hx
      exact hb j hj (by omega)
set_option maxRecDepth 100000 in
theorem contE_spec (l : List Ev) (p : Ev → Bool) (off c : Nat) (g : FuncId) (caps : List VV) (rest : List (Nat × VObj)) (n : Nat) (hl : l.length < 4611686018427387904) (hn : 1 < n)
    (hcap : scL n caps) (hrest : ∀ e ∈ rest, e.1 < n ∧ e.2.wf n) (hwl : scL n (rowsV encEv l)) (hnd : (((1, VObj.ro off (rowsV encEv l)) :: rest).map Prod.fst).Nodup)
    (hp : ∀ e ∈ l, ∀ K : VV → Heap → Prop, K (.bool (p e)) ⟨n, (1, .ro off (rowsV encEv l)) :: rest⟩ → Gam Try.prog g (.agg (encEv e) :: caps) ⟨n, (1, .ro off (rowsV encEv l)) :: rest⟩ K)
    (K : VV → Heap → Prop) (hK : K (.bool (l.any p)) ⟨n, (1, .ro off (rowsV encEv l)) :: rest⟩) :
    Gam Try.prog 20 [.sl 1 off l.length c, .fn g caps] ⟨n, (1, .ro off (rowsV encEv l)) :: rest⟩ K := by
  have hes : EsS n ((1, VObj.ro off (rowsV encEv l)) :: rest) ((1, VObj.ro off (rowsV encEv l)) :: rest) := EsS.refl (fun _ h => h) fun e he => by
    rcases List.mem_cons.1 he with rfl | he
    · exact ⟨hn, hwl⟩
    · exact hrest e he
  refine gam_enter Try.tok (by kernel_rfl) Try.func20 rfl rfl rfl ?_
  refine c_seq ?_
  (repeat (first | with_reducible refine e_seq ?_ | with_reducible refine c_seq ?_ | with_reducible refine c_block ?_ | with_reducible refine c_skip ?_ | with_reducible refine c_exit ?_ | with_reducible refine c_ret ?_ | with_reducible refine e_seq_ret ?_ | with_reducible refine e_seq_exit ?_ | with_reducible refine e_block_ret ?_ | with_reducible refine e_block_exit ?_ | with_reducible refine e_block ?_ | with_reducible refine e_block_other rfl ?_ | with_reducible refine e_loop_exit ?_ | with_reducible refine e_loop_ret ?_ | ((with_reducible refine c_region (fun K' hK' => ?_)); (conv => whnf); (repeat (first | (refine And.intro rfl ?_; (conv => whnf)) | (refine And.intro (by decide) ?_; (conv => whnf)))); (with_reducible refine hK' _ _ ?_); clear hK' K')))
  (with_reducible refine c_region (fun K' hK' => ?_)); (conv => whnf); (repeat (first | (refine And.intro rfl ?_; (conv => whnf)) | (refine And.intro (by decide) ?_; (conv => whnf))))
  refine indexE_spec l p off c g caps rest n hl hn hcap hrest hwl hnd hp _ ?_
  (conv => whnf); (repeat (first | (refine And.intro rfl ?_; (conv => whnf)) | (refine And.intro (by decide) ?_; (conv => whnf))))
  (with_reducible refine hK' _ _ ?_); clear hK' K'
  (repeat (first | with_reducible refine e_seq ?_ | with_reducible refine c_seq ?_ | with_reducible refine c_block ?_ | with_reducible refine c_skip ?_ | with_reducible refine c_exit ?_ | with_reducible refine c_ret ?_ | with_reducible refine e_seq_ret ?_ | with_reducible refine e_seq_exit ?_ | with_reducible refine e_block_ret ?_ | with_reducible refine e_block_exit ?_ | with_reducible refine e_block ?_ | with_reducible refine e_block_other rfl ?_ | with_reducible refine e_loop_exit ?_ | with_reducible refine e_loop_ret ?_ | ((with_reducible refine c_region (fun K' hK' => ?_)); (conv => whnf); (repeat (first | (refine And.intro rfl ?_; (conv => whnf)) | (refine And.intro (by decide) ?_; (conv => whnf)))); (with_reducible refine hK' _ _ ?_); clear hK' K')))
  refine ret_id (Nat.le_refl _) (Nat.le_refl _) trivial hes hnd ?_
  refine cast ?_ hK
  congr 2
  rw [idxI_any]
end Go.Proofs.Ytfphhdcpjoajbaa
