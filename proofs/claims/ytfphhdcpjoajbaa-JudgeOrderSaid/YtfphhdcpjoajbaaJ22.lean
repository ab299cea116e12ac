import Derived.Test.YtfphhdcpjoajbaaJ21
namespace Go.Proofs.Ytfphhdcpjoajbaa
open Go.VM Go.RowKit
/-- a list turned about -/
def rot (l : List Ev) (k : Nat) : List Ev := l.drop k ++ l.take k
theorem rot_perm (l : List Ev) (k : Nat) : (rot l k).Perm l := by
  unfold rot
  exact List.perm_append_comm.trans (by rw [List.take_append_drop])
theorem rot_len (l : List Ev) (k : Nat) : (rot l k).length = l.length := (rot_perm l k).length_eq
theorem rot_at {l : List Ev} {k i : Nat} (hk : k < l.length) (hi : i < l.length) : (rot l k)[i]? = l[(i + k) % l.length]? := by
  unfold rot
  by_cases h : i + k < l.length
  · rw [Nat.mod_eq_of_lt h, List.getElem?_append_left (by simp; omega), List.getElem?_drop, Nat.add_comm k i]
  · rw [Nat.mod_eq_sub_mod (by omega), Nat.mod_eq_of_lt (by omega), List.getElem?_append_right (by simp; omega), List.length_drop, List.getElem?_take, if_pos (by omega)]
    congr 1; omega
def goodB (e : Ev) : Bool := decide (e.fin ≥ 0) && (e.err == 0) && decide (e.place > 0)
theorem good_keep {e : Ev} (h : goodB e = true) : keepB e = true := by
  unfold goodB at h
  simp only [Bool.and_eq_true, decide_eq_true_eq, beq_iff_eq] at h
  obtain ⟨⟨h1, h2⟩, h3⟩ := h
  have e1 : decide (e.fin < 0) = false := decide_eq_false (by omega)
  have e2 : decide (e.place < 1) = false := decide_eq_false (by omega)
  unfold keepB dropB
  rw [e1, e2, h2]; rfl
theorem right_twice {l : List Ev} {e : Ev} (hm : e ∈ l) (h : goodB e = true) : rightB ((l ++ [e]).filter keepB) = false := by
  have hk := good_keep h
  rw [List.filter_append, List.filter_cons, if_pos hk, List.filter_nil]
  unfold rightB
  have : ¬ ((l.filter keepB ++ [e]).map Ev.place).Nodup := by
    rw [List.map_append, List.nodup_append]
    intro hn
    exact hn.2.2 e.place (List.mem_map.2 ⟨e, List.mem_filter.2 ⟨hm, hk⟩, rfl⟩) e.place (by simp) rfl
  rw [decide_eq_false this]; rfl
theorem turn_k (turn : Int) {n : Nat} (h0 : 0 < n) (hn : n ≤ 12) : ∃ k : Nat, k < n ∧ (IntKind.i64.wrap (turn.tmod n + n)).tmod n = k := by
  have h1 := Int.tmod_lt_of_pos turn (b := (n : Int)) (by omega)
  have h2 := Int.lt_tmod_of_pos turn (b := (n : Int)) (by omega)
  rw [wrap_i64 (by omega)]
  have h3 := Int.tmod_lt_of_pos (turn.tmod n + n) (b := (n : Int)) (by omega)
  have h4 := Int.tmod_nonneg (a := turn.tmod n + n) (n : Int) (by omega)
  exact ⟨((turn.tmod n + n).tmod n).toNat, by omega, by omega⟩
structure TuX where
  i : Nat
  t : List Ev
  c : Nat
  m : Nat
abbrev tuX0 : TuX := ⟨0, [], 0, 0⟩
set_option maxHeartbeats 4000000 in
set_option maxRecDepth 100000 in
theorem JudgeOrder_spec (l : List Or9) (off cl : Nat) (turn : Int) (hl : l.length < 4611686018427387904) (K : VV → Heap → Prop) (hK : K (.bool true) ⟨2, []⟩) :
    Gam Try.prog 4 [.sl 1 off l.length cl, .int .i64 turn] ⟨2, [(1, .ro off (ro9 l))]⟩ K := by
  refine gam_enter Try.tok (by kernel_rfl) Try.func4 rfl rfl rfl ?_
  refine c_seq ?_
  (repeat (first | with_reducible refine e_seq ?_ | with_reducible refine c_seq ?_ | with_reducible refine c_block ?_ | with_reducible refine c_skip ?_ | with_reducible refine c_exit ?_ | with_reducible refine c_ret ?_ | with_reducible refine e_seq_ret ?_ | with_reducible refine e_seq_exit ?_ | with_reducible refine e_block_ret ?_ | with_reducible refine e_block_exit ?_ | with_reducible refine e_block ?_ | with_reducible refine e_block_other rfl ?_ | with_reducible refine e_loop_exit ?_ | with_reducible refine e_loop_ret ?_ | ((with_reducible refine c_region (fun K' hK' => ?_)); (conv => whnf); (repeat (first | (refine And.intro rfl ?_; (conv => whnf)) | (refine And.intro (by decide) ?_; (conv => whnf)))); (with_reducible refine hK' _ _ ?_); clear hK' K')))
  (with_reducible refine c_region (fun K' hK' => ?_)); (conv => whnf); (repeat (first | (refine And.intro rfl ?_; (conv => whnf)) | (refine And.intro (by decide) ?_; (conv => whnf))))
  refine call0 (by simp) (fun _ => rfl) trivial (begun_spec _ ⟨⟨rfl, fun _ => rfl⟩, ?_⟩)
  (conv => whnf); (repeat (first | (refine And.intro rfl ?_; (conv => whnf)) | (refine And.intro (by decide) ?_; (conv => whnf))))
  (with_reducible refine hK' _ _ ?_); clear hK' K'
  (repeat (first | with_reducible refine e_seq ?_ | with_reducible refine c_seq ?_ | with_reducible refine c_block ?_ | with_reducible refine c_skip ?_ | with_reducible refine c_exit ?_ | with_reducible refine c_ret ?_ | with_reducible refine e_seq_ret ?_ | with_reducible refine e_seq_exit ?_ | with_reducible refine e_block_ret ?_ | with_reducible refine e_block_exit ?_ | with_reducible refine e_block ?_ | with_reducible refine e_block_other rfl ?_ | with_reducible refine e_loop_exit ?_ | with_reducible refine e_loop_ret ?_ | ((with_reducible refine c_region (fun K' hK' => ?_)); (conv => whnf); (repeat (first | (refine And.intro rfl ?_; (conv => whnf)) | (refine And.intro (by decide) ?_; (conv => whnf)))); (with_reducible refine hK' _ _ ?_); clear hK' K')))
  refine c_cond_f (by (conv => whnf) <;> rfl) ?_
  (repeat (first | with_reducible refine e_seq ?_ | with_reducible refine c_seq ?_ | with_reducible refine c_block ?_ | with_reducible refine c_skip ?_ | with_reducible refine c_exit ?_ | with_reducible refine c_ret ?_ | with_reducible refine e_seq_ret ?_ | with_reducible refine e_seq_exit ?_ | with_reducible refine e_block_ret ?_ | with_reducible refine e_block_exit ?_ | with_reducible refine e_block ?_ | with_reducible refine e_block_other rfl ?_ | with_reducible refine e_loop_exit ?_ | with_reducible refine e_loop_ret ?_ | ((with_reducible refine c_region (fun K' hK' => ?_)); (conv => whnf); (repeat (first | (refine And.intro rfl ?_; (conv => whnf)) | (refine And.intro (by decide) ?_; (conv => whnf)))); (with_reducible refine hK' _ _ ?_); clear hK' K')))
  (with_reducible refine c_region (fun K' hK' => ?_)); (conv => whnf); (repeat (first | (refine And.intro rfl ?_; (conv => whnf)) | (refine And.intro (by decide) ?_; (conv => whnf))))
  refine call_rule [1] (h := ⟨2, [(1, .ro off (ro9 l))]⟩) (args0 := [.sl 1 off l.length cl]) rfl (by simp [renL, ren, calT]) (by simp [wfArgs, wf, wf1, sc]) (by simp) (esr_ro (by simp) (flatRo9 _) (by first | exact List.Mem.head _ | exact .tail _ (.head _) | exact .tail _ (.tail _ (.head _)) | exact .tail _ (.tail _ (.tail _ (.head _))) | exact .tail _ (.tail _ (.tail _ (.tail _ (.head _)))) | exact .tail _ (.tail _ (.tail _ (.tail _ (.tail _ (.head _))))) | exact .tail _ (.tail _ (.tail _ (.tail _ (.tail _ (.tail _ (.head _)))))) | exact .tail _ (.tail _ (.tail _ (.tail _ (.tail _ (.tail _ (.tail _ (.head _))))))) | exact .tail _ (.tail _ (.tail _ (.tail _ (.tail _ (.tail _ (.tail _ (.tail _ (.head _))))))))) trivial) apart_one ?_
  refine events_spec l off cl hl _ fun ev c m hlen hok hc hm => ?_
  intro r2 n2 es2 hr hn hes
  replace hes : es2 = [(2, .row (re ev) 41 m), (1, .ro off (ro9 l))] := by
    rw [hes]; simp [renEs, remEs, ownIds, VObj.owned, VObj.ren, renL, ren, (flatRe _).1, (flatRo9 _).1, calT]
  replace hr : r2 = .sl 2 0 ev.length c := hr
  replace hn : n2 = 3 := hn
  subst hr; subst hn; subst hes
  have hn12 : ev.length ≤ 12 := by omega
  clear hlen
  (conv => whnf); (repeat (first | (refine And.intro rfl ?_; (conv => whnf)) | (refine And.intro (by decide) ?_; (conv => whnf))))
  (with_reducible refine hK' _ _ ?_); clear hK' K'
  (repeat (first | with_reducible refine e_seq ?_ | with_reducible refine c_seq ?_ | with_reducible refine c_block ?_ | with_reducible refine c_skip ?_ | with_reducible refine c_exit ?_ | with_reducible refine c_ret ?_ | with_reducible refine e_seq_ret ?_ | with_reducible refine e_seq_exit ?_ | with_reducible refine e_block_ret ?_ | with_reducible refine e_block_exit ?_ | with_reducible refine e_block ?_ | with_reducible refine e_block_other rfl ?_ | with_reducible refine e_loop_exit ?_ | with_reducible refine e_loop_ret ?_ | ((with_reducible refine c_region (fun K' hK' => ?_)); (conv => whnf); (repeat (first | (refine And.intro rfl ?_; (conv => whnf)) | (refine And.intro (by decide) ?_; (conv => whnf)))); (with_reducible refine hK' _ _ ?_); clear hK' K')))
  refine c_cond (by (conv => whnf) <;> rfl) (fun h0 => ?_) (fun h0 => ?_)
  · (repeat (first | with_reducible refine e_seq ?_ | with_reducible refine c_seq ?_ | with_reducible refine c_block ?_ | with_reducible refine c_skip ?_ | with_reducible refine c_exit ?_ | with_reducible refine c_ret ?_ | with_reducible refine e_seq_ret ?_ | with_reducible refine e_seq_exit ?_ | with_reducible refine e_block_ret ?_ | with_reducible refine e_block_exit ?_ | with_reducible refine e_block ?_ | with_reducible refine e_block_other rfl ?_ | with_reducible refine e_loop_exit ?_ | with_reducible refine e_loop_ret ?_ | ((with_reducible refine c_region (fun K' hK' => ?_)); (conv => whnf); (repeat (first | (refine And.intro rfl ?_; (conv => whnf)) | (refine And.intro (by decide) ?_; (conv => whnf)))); (with_reducible refine hK' _ _ ?_); clear hK' K')))
    (with_reducible refine c_region (fun K' hK' => ?_)); (conv => whnf); (repeat (first | (refine And.intro rfl ?_; (conv => whnf)) | (refine And.intro (by decide) ?_; (conv => whnf))))
    show Gam Try.prog 10 [.sl 0 0 0 0] _ _
    refine call0z (by simp) (fun _ h => by simp [renL, ren, h]) (by simp [wfArgs, wf, wf1, sc]) (right_nil _ ⟨⟨rfl, fun _ _ => rfl⟩, ?_⟩)
    (conv => whnf); (repeat (first | (refine And.intro rfl ?_; (conv => whnf)) | (refine And.intro (by decide) ?_; (conv => whnf))))
    show Gam Try.prog 11 [.sl 0 0 0 0] _ _
    refine call0z (by simp) (fun _ h => by simp [renL, ren, h]) (by simp [wfArgs, wf, wf1, sc]) (timely_nil _ ⟨⟨rfl, fun _ _ => rfl⟩, ?_⟩)
    (conv => whnf); (repeat (first | (refine And.intro rfl ?_; (conv => whnf)) | (refine And.intro (by decide) ?_; (conv => whnf))))
    (with_reducible refine hK' _ _ ?_); clear hK' K'
    (repeat (first | with_reducible refine e_seq ?_ | with_reducible refine c_seq ?_ | with_reducible refine c_block ?_ | with_reducible refine c_skip ?_ | with_reducible refine c_exit ?_ | with_reducible refine c_ret ?_ | with_reducible refine e_seq_ret ?_ | with_reducible refine e_seq_exit ?_ | with_reducible refine e_block_ret ?_ | with_reducible refine e_block_exit ?_ | with_reducible refine e_block ?_ | with_reducible refine e_block_other rfl ?_ | with_reducible refine e_loop_exit ?_ | with_reducible refine e_loop_ret ?_ | ((with_reducible refine c_region (fun K' hK' => ?_)); (conv => whnf); (repeat (first | (refine And.intro rfl ?_; (conv => whnf)) | (refine And.intro (by decide) ?_; (conv => whnf)))); (with_reducible refine hK' _ _ ?_); clear hK' K')))
    exact ret_id (es := []) (Nat.le_refl _) (by simp) trivial trivial (by simp) hK
  · have h0 : 0 < ev.length := by
      have : ¬ ((ev.length : Int) = 0) := by simpa using h0
      omega
    (repeat (first | with_reducible refine e_seq ?_ | with_reducible refine c_seq ?_ | with_reducible refine c_block ?_ | with_reducible refine c_skip ?_ | with_reducible refine c_exit ?_ | with_reducible refine c_ret ?_ | with_reducible refine e_seq_ret ?_ | with_reducible refine e_seq_exit ?_ | with_reducible refine e_block_ret ?_ | with_reducible refine e_block_exit ?_ | with_reducible refine e_block ?_ | with_reducible refine e_block_other rfl ?_ | with_reducible refine e_loop_exit ?_ | with_reducible refine e_loop_ret ?_ | ((with_reducible refine c_region (fun K' hK' => ?_)); (conv => whnf); (repeat (first | (refine And.intro rfl ?_; (conv => whnf)) | (refine And.intro (by decide) ?_; (conv => whnf)))); (with_reducible refine hK' _ _ ?_); clear hK' K')))
    (with_reducible refine c_region (fun K' hK' => ?_)); (conv => whnf); (repeat (first | (refine And.intro rfl ?_; (conv => whnf)) | (refine And.intro (by decide) ?_; (conv => whnf))))
    refine ⟨by omega, ?_⟩
    (conv => whnf); (repeat (first | (refine And.intro rfl ?_; (conv => whnf)) | (refine And.intro (by decide) ?_; (conv => whnf))))
    refine ⟨by omega, ?_⟩
    obtain ⟨k, hk, hke⟩ := turn_k turn h0 hn12
    rw [hke]
    (conv => whnf); (repeat (first | (refine And.intro rfl ?_; (conv => whnf)) | (refine And.intro (by decide) ?_; (conv => whnf))))
    (with_reducible refine hK' _ _ ?_); clear hK' K'
    (repeat (first | with_reducible refine e_seq ?_ | with_reducible refine c_seq ?_ | with_reducible refine c_block ?_ | with_reducible refine c_skip ?_ | with_reducible refine c_exit ?_ | with_reducible refine c_ret ?_ | with_reducible refine e_seq_ret ?_ | with_reducible refine e_seq_exit ?_ | with_reducible refine e_block_ret ?_ | with_reducible refine e_block_exit ?_ | with_reducible refine e_block ?_ | with_reducible refine e_block_other rfl ?_ | with_reducible refine e_loop_exit ?_ | with_reducible refine e_loop_ret ?_ | ((with_reducible refine c_region (fun K' hK' => ?_)); (conv => whnf); (repeat (first | (refine And.intro rfl ?_; (conv => whnf)) | (refine And.intro (by decide) ?_; (conv => whnf)))); (with_reducible refine hK' _ _ ?_); clear hK' K')))
    refine c_loop_nil 41 ?_
    refine sem_loopX Try.tok (show 1 ≤ 2 by omega) (fun (x : TuX) => ((.any :: .any :: .any :: .any :: .any :: .bool true :: .sl 2 0 ev.length c :: .int .i64 (k : Nat) :: .sl 3 0 x.t.length x.c :: .int .i64 (x.i : Nat) :: .any :: .any :: .any :: .any :: .any :: .any :: .any :: .any :: .any :: .any :: .any :: .any :: .any :: .any :: .any :: .any :: .any :: .any :: .any :: .any :: .any :: .any :: .any :: .any :: .any :: .any :: .any :: .any :: .any :: .any :: .any :: .any :: .any :: .any :: .any :: .any :: .any :: .any :: .any :: .any :: .any :: .any :: .any :: .any :: .any :: .any :: .any :: .any :: .any :: .any :: .any :: .any :: .any :: .any :: .any :: .any :: .any :: .any :: .any :: .any :: .any :: .any :: .any :: .any :: .any :: .any :: .any :: .any :: .any :: .any :: .any :: .any :: .any :: .any :: .any :: .any :: []))) (fun x => ⟨4, [(2, .row (re ev) 41 m), (3, .row (re x.t) 41 x.m)]⟩)
      (fun x => x.i ≤ ev.length ∧ x.t = (rot ev k).take x.i ∧ x.t.length ≤ x.c ∧ x.m = x.c * 12) (fun x => ev.length - x.i) tuX0 ?_ ?_ ?_
    · exact ⟨Nat.zero_le _, rfl, Nat.le_refl _, rfl⟩
    · refine ⟨[2, 0], rfl, by simp, ?_, ?_, by simp [Apart, thet]⟩
      · exact ⟨⟨by first | rfl | (refine congrArg (VV.int _) ?_; rw [wrap_i64 (by omega)]; omega) | (refine congrArg (VV.int _) ?_; omega) | (simp; done), by first | exact trivial | (simp only [wf, wf1, sc, scL]; first | exact trivial | assumption | omega | (simp; done) | (simp; omega))⟩, ⟨by first | rfl | (refine congrArg (VV.int _) ?_; rw [wrap_i64 (by omega)]; omega) | (refine congrArg (VV.int _) ?_; omega) | (simp; done), by first | exact trivial | (simp only [wf, wf1, sc, scL]; first | exact trivial | assumption | omega | (simp; done) | (simp; omega))⟩, ⟨by first | rfl | (refine congrArg (VV.int _) ?_; rw [wrap_i64 (by omega)]; omega) | (refine congrArg (VV.int _) ?_; omega) | (simp; done), by first | exact trivial | (simp only [wf, wf1, sc, scL]; first | exact trivial | assumption | omega | (simp; done) | (simp; omega))⟩, ⟨by first | rfl | (refine congrArg (VV.int _) ?_; rw [wrap_i64 (by omega)]; omega) | (refine congrArg (VV.int _) ?_; omega) | (simp; done), by first | exact trivial | (simp only [wf, wf1, sc, scL]; first | exact trivial | assumption | omega | (simp; done) | (simp; omega))⟩, ⟨by first | rfl | (refine congrArg (VV.int _) ?_; rw [wrap_i64 (by omega)]; omega) | (refine congrArg (VV.int _) ?_; omega) | (simp; done), by first | exact trivial | (simp only [wf, wf1, sc, scL]; first | exact trivial | assumption | omega | (simp; done) | (simp; omega))⟩, trivial⟩
      · exact esr_row (by simp) (flatRe _) (by first | exact List.Mem.head _ | exact .tail _ (.head _) | exact .tail _ (.tail _ (.head _)) | exact .tail _ (.tail _ (.tail _ (.head _))) | exact .tail _ (.tail _ (.tail _ (.tail _ (.head _)))) | exact .tail _ (.tail _ (.tail _ (.tail _ (.tail _ (.head _))))) | exact .tail _ (.tail _ (.tail _ (.tail _ (.tail _ (.tail _ (.head _)))))) | exact .tail _ (.tail _ (.tail _ (.tail _ (.tail _ (.tail _ (.tail _ (.head _))))))) | exact .tail _ (.tail _ (.tail _ (.tail _ (.tail _ (.tail _ (.tail _ (.tail _ (.head _))))))))) ⟨⟨by simp, trivial, _, (by first | exact List.Mem.head _ | exact .tail _ (.head _) | exact .tail _ (.tail _ (.head _)) | exact .tail _ (.tail _ (.tail _ (.head _))) | exact .tail _ (.tail _ (.tail _ (.tail _ (.head _)))) | exact .tail _ (.tail _ (.tail _ (.tail _ (.tail _ (.head _))))) | exact .tail _ (.tail _ (.tail _ (.tail _ (.tail _ (.tail _ (.head _)))))) | exact .tail _ (.tail _ (.tail _ (.tail _ (.tail _ (.tail _ (.tail _ (.head _))))))) | exact .tail _ (.tail _ (.tail _ (.tail _ (.tail _ (.tail _ (.tail _ (.tail _ (.head _))))))))), Cov.refl _⟩, trivial⟩
    rintro ⟨i, t, ct, mt⟩ ⟨hi, ht, hct, hmt⟩
    dsimp only at hi ht hct hmt ⊢
    have htl : t.length = i := by rw [ht, List.length_take, rot_len]; omega
    (repeat (first | with_reducible refine e_seq ?_ | with_reducible refine c_seq ?_ | with_reducible refine c_block ?_ | with_reducible refine c_skip ?_ | with_reducible refine c_exit ?_ | with_reducible refine c_ret ?_ | with_reducible refine e_seq_ret ?_ | with_reducible refine e_seq_exit ?_ | with_reducible refine e_block_ret ?_ | with_reducible refine e_block_exit ?_ | with_reducible refine e_block ?_ | with_reducible refine e_block_other rfl ?_ | with_reducible refine e_loop_exit ?_ | with_reducible refine e_loop_ret ?_ | ((with_reducible refine c_region (fun K' hK' => ?_)); (conv => whnf); (repeat (first | (refine And.intro rfl ?_; (conv => whnf)) | (refine And.intro (by decide) ?_; (conv => whnf)))); (with_reducible refine hK' _ _ ?_); clear hK' K')))
    refine c_cond (by (conv => whnf) <;> rfl) (fun hc => ?_) (fun hc => ?_)
    · have hc : i < ev.length := by simpa using hc
      (repeat (first | with_reducible refine e_seq ?_ | with_reducible refine c_seq ?_ | with_reducible refine c_block ?_ | with_reducible refine c_skip ?_ | with_reducible refine c_exit ?_ | with_reducible refine c_ret ?_ | with_reducible refine e_seq_ret ?_ | with_reducible refine e_seq_exit ?_ | with_reducible refine e_block_ret ?_ | with_reducible refine e_block_exit ?_ | with_reducible refine e_block ?_ | with_reducible refine e_block_other rfl ?_ | with_reducible refine e_loop_exit ?_ | with_reducible refine e_loop_ret ?_ | ((with_reducible refine c_region (fun K' hK' => ?_)); (conv => whnf); (repeat (first | (refine And.intro rfl ?_; (conv => whnf)) | (refine And.intro (by decide) ?_; (conv => whnf)))); (with_reducible refine hK' _ _ ?_); clear hK' K')))
      (with_reducible refine c_region (fun K' hK' => ?_)); (conv => whnf); (repeat (first | (refine And.intro rfl ?_; (conv => whnf)) | (refine And.intro (by decide) ?_; (conv => whnf))))
      refine ⟨by omega, ?_⟩
      have hj : (IntKind.i64.wrap ((i : Int) + (k : Nat))).tmod (ev.length : Nat) = (((i + k) % ev.length : Nat) : Int) := by
        rw [wrap_i64 (by omega), Int.tmod_eq_emod_of_nonneg (by omega), Int.natCast_emod, Int.natCast_add]
      have hjl : (i + k) % ev.length < ev.length := Nat.mod_lt _ h0
      have hrj : (rot ev k)[i]? = ev[(i + k) % ev.length]? := rot_at hk hc
      have htn : (rot ev k).take (i + 1) = t ++ [ev[(i + k) % ev.length]] := by
        rw [ht, List.take_add_one, hrj, List.getElem?_eq_getElem hjl]; rfl
      rw [hj]
      generalize (i + k) % ev.length = j at *
      (conv => whnf); (repeat (first | (refine And.intro rfl ?_; (conv => whnf)) | (refine And.intro (by decide) ?_; (conv => whnf))))
      obtain ⟨hd, tl, hcs⟩ : ∃ hd tl, re ev = hd :: tl := rowsV_ne encEv_len (by omega) (by omega)
      refine ⟨by omega, ?_⟩
      have hmp : Nat.ble 1 m = true := by rw [Nat.ble_eq]; omega
      conv => whnf
      rw [hmp]
      (conv => whnf); (repeat (first | (refine And.intro rfl ?_; (conv => whnf)) | (refine And.intro (by decide) ?_; (conv => whnf))))
      refine takeC_rows' encEv_len hjl ?_ (by simp)
      generalize ev[j] = e at *
      (conv => whnf); (repeat (first | (refine And.intro rfl ?_; (conv => whnf)) | (refine And.intro (by decide) ?_; (conv => whnf))))
      refine ⟨⟨by simp; omega, by simp; omega⟩, ?_⟩
      (conv => whnf); (repeat (first | (refine And.intro rfl ?_; (conv => whnf)) | (refine And.intro (by decide) ?_; (conv => whnf))))
      refine ⟨⟨rfl, rfl, re_len t, hmt⟩, fun c3 hc3 => ?_⟩
      (conv => whnf); (repeat (first | (refine And.intro rfl ?_; (conv => whnf)) | (refine And.intro (by decide) ?_; (conv => whnf))))
      (with_reducible refine hK' _ _ ?_); clear hK' K'
      (repeat (first | with_reducible refine e_seq ?_ | with_reducible refine c_seq ?_ | with_reducible refine c_block ?_ | with_reducible refine c_skip ?_ | with_reducible refine c_exit ?_ | with_reducible refine c_ret ?_ | with_reducible refine e_seq_ret ?_ | with_reducible refine e_seq_exit ?_ | with_reducible refine e_block_ret ?_ | with_reducible refine e_block_exit ?_ | with_reducible refine e_block ?_ | with_reducible refine e_block_other rfl ?_ | with_reducible refine e_loop_exit ?_ | with_reducible refine e_loop_ret ?_ | ((with_reducible refine c_region (fun K' hK' => ?_)); (conv => whnf); (repeat (first | (refine And.intro rfl ?_; (conv => whnf)) | (refine And.intro (by decide) ?_; (conv => whnf)))); (with_reducible refine hK' _ _ ?_); clear hK' K')))
      rw [wrap_i64 (by omega)]
      refine e_loop ⟨i + 1, t ++ [e], c3, c3 * 12⟩ ⟨hc, htn.symm, by simp; omega, rfl⟩ (by simp; omega) ?_
      refine ⟨[2, 5], rfl, by simp, ?_, ?_, by simp [Apart, thet]⟩
      · rw [show (t ++ [e]).length = t.length + (0 + 1) by simp]
        exact ⟨⟨by first | rfl | (refine congrArg (VV.int _) ?_; rw [wrap_i64 (by omega)]; omega) | (refine congrArg (VV.int _) ?_; omega) | (simp; done), by first | exact trivial | (simp only [wf, wf1, sc, scL]; first | exact trivial | assumption | omega | (simp; done) | (simp; omega))⟩, ⟨by first | rfl | (refine congrArg (VV.int _) ?_; rw [wrap_i64 (by omega)]; omega) | (refine congrArg (VV.int _) ?_; omega) | (simp; done), by first | exact trivial | (simp only [wf, wf1, sc, scL]; first | exact trivial | assumption | omega | (simp; done) | (simp; omega))⟩, ⟨by first | rfl | (refine congrArg (VV.int _) ?_; rw [wrap_i64 (by omega)]; omega) | (refine congrArg (VV.int _) ?_; omega) | (simp; done), by first | exact trivial | (simp only [wf, wf1, sc, scL]; first | exact trivial | assumption | omega | (simp; done) | (simp; omega))⟩, ⟨by first | rfl | (refine congrArg (VV.int _) ?_; rw [wrap_i64 (by omega)]; omega) | (refine congrArg (VV.int _) ?_; omega) | (simp; done), by first | exact trivial | (simp only [wf, wf1, sc, scL]; first | exact trivial | assumption | omega | (simp; done) | (simp; omega))⟩, ⟨by first | rfl | (refine congrArg (VV.int _) ?_; rw [wrap_i64 (by omega)]; omega) | (refine congrArg (VV.int _) ?_; omega) | (simp; done), by first | exact trivial | (simp only [wf, wf1, sc, scL]; first | exact trivial | assumption | omega | (simp; done) | (simp; omega))⟩, trivial⟩
      · refine esr_row (by simp) (flatRe _) (by first | exact List.Mem.head _ | exact .tail _ (.head _) | exact .tail _ (.tail _ (.head _)) | exact .tail _ (.tail _ (.tail _ (.head _))) | exact .tail _ (.tail _ (.tail _ (.tail _ (.head _)))) | exact .tail _ (.tail _ (.tail _ (.tail _ (.tail _ (.head _))))) | exact .tail _ (.tail _ (.tail _ (.tail _ (.tail _ (.tail _ (.head _)))))) | exact .tail _ (.tail _ (.tail _ (.tail _ (.tail _ (.tail _ (.tail _ (.head _))))))) | exact .tail _ (.tail _ (.tail _ (.tail _ (.tail _ (.tail _ (.tail _ (.tail _ (.head _))))))))) (esr_row (by simp) (flatRe _) ?_ trivial)
        rw [show re (t ++ [e]) = re t ++ encEv e by rw [re_app]; rfl]
        exact (by first | exact List.Mem.head _ | exact .tail _ (.head _) | exact .tail _ (.tail _ (.head _)) | exact .tail _ (.tail _ (.tail _ (.head _))) | exact .tail _ (.tail _ (.tail _ (.tail _ (.head _)))) | exact .tail _ (.tail _ (.tail _ (.tail _ (.tail _ (.head _))))) | exact .tail _ (.tail _ (.tail _ (.tail _ (.tail _ (.tail _ (.head _)))))) | exact .tail _ (.tail _ (.tail _ (.tail _ (.tail _ (.tail _ (.tail _ (.head _))))))) | exact .tail _ (.tail _ (.tail _ (.tail _ (.tail _ (.tail _ (.tail _ (.tail _ (.head _)))))))))
    · have hc : i = ev.length := by
        have : ¬ i < ev.length := by simpa using hc
        omega
      have htt : t = rot ev k := by rw [ht, hc, ← rot_len ev k, List.take_length]
      (repeat (first | with_reducible refine e_seq ?_ | with_reducible refine c_seq ?_ | with_reducible refine c_block ?_ | with_reducible refine c_skip ?_ | with_reducible refine c_exit ?_ | with_reducible refine c_ret ?_ | with_reducible refine e_seq_ret ?_ | with_reducible refine e_seq_exit ?_ | with_reducible refine e_block_ret ?_ | with_reducible refine e_block_exit ?_ | with_reducible refine e_block ?_ | with_reducible refine e_block_other rfl ?_ | with_reducible refine e_loop_exit ?_ | with_reducible refine e_loop_ret ?_ | ((with_reducible refine c_region (fun K' hK' => ?_)); (conv => whnf); (repeat (first | (refine And.intro rfl ?_; (conv => whnf)) | (refine And.intro (by decide) ?_; (conv => whnf)))); (with_reducible refine hK' _ _ ?_); clear hK' K')))
      (with_reducible refine c_region (fun K' hK' => ?_)); (conv => whnf); (repeat (first | (refine And.intro rfl ?_; (conv => whnf)) | (refine And.intro (by decide) ?_; (conv => whnf))))
      obtain ⟨hd, tl, hcs⟩ : ∃ hd tl, re ev = hd :: tl := rowsV_ne encEv_len (by omega) (by omega)
      have hmp : Nat.ble 1 m = true := by rw [Nat.ble_eq]; omega
      refine ⟨by omega, ?_⟩
      conv => whnf
      rw [hmp]
      (conv => whnf); (repeat (first | (refine And.intro rfl ?_; (conv => whnf)) | (refine And.intro (by decide) ?_; (conv => whnf))))
      refine takeC_rows' encEv_len hk ?_ (by simp)
      have hem : ev[k] ∈ t := by rw [htt]; exact (rot_perm ev k).mem_iff.2 (List.getElem_mem hk)
      generalize ev[k] = e at *
      (conv => whnf); (repeat (first | (refine And.intro rfl ?_; (conv => whnf)) | (refine And.intro (by decide) ?_; (conv => whnf))))
      (with_reducible refine hK' _ _ ?_); clear hK' K'
      (repeat (first | with_reducible refine e_seq ?_ | with_reducible refine c_seq ?_ | with_reducible refine c_block ?_ | with_reducible refine c_skip ?_ | with_reducible refine c_exit ?_ | with_reducible refine c_ret ?_ | with_reducible refine e_seq_ret ?_ | with_reducible refine e_seq_exit ?_ | with_reducible refine e_block_ret ?_ | with_reducible refine e_block_exit ?_ | with_reducible refine e_block ?_ | with_reducible refine e_block_other rfl ?_ | with_reducible refine e_loop_exit ?_ | with_reducible refine e_loop_ret ?_ | ((with_reducible refine c_region (fun K' hK' => ?_)); (conv => whnf); (repeat (first | (refine And.intro rfl ?_; (conv => whnf)) | (refine And.intro (by decide) ?_; (conv => whnf)))); (with_reducible refine hK' _ _ ?_); clear hK' K')))
      (with_reducible refine c_region (fun K' hK' => ?_)); (conv => whnf); (repeat (first | (refine And.intro rfl ?_; (conv => whnf)) | (refine And.intro (by decide) ?_; (conv => whnf))))
      have key : ∀ bb : Bool, bb = goodB e → ∀ (j34 j35 j36 j37 j38 j39 j40 j41 j42 j43 j44 j45 j46 j47 j48 j49 j50 j51 j52 j53 j54 j55 j56 j57 j58 j59 j60 j61 j62 j63 j64 j65 j66 j67 : VV), K' ((.any :: .any :: .any :: .any :: .any :: .bool true :: .sl 2 0 ev.length c :: .int .i64 (k : Nat) :: .sl 3 0 t.length ct :: .int .i64 (i : Nat) :: .ptr 4 0 :: .bool bb :: .any :: .any :: .any :: .any :: .any :: .any :: .any :: .any :: .any :: .any :: .any :: .any :: .any :: .any :: .any :: .any :: .any :: .any :: .any :: .any :: .any :: .any :: j34 :: j35 :: j36 :: j37 :: j38 :: j39 :: j40 :: j41 :: j42 :: j43 :: j44 :: j45 :: j46 :: j47 :: j48 :: j49 :: j50 :: j51 :: j52 :: j53 :: j54 :: j55 :: j56 :: j57 :: j58 :: j59 :: j60 :: j61 :: j62 :: j63 :: j64 :: j65 :: j66 :: j67 :: .bool bb :: .any :: .any :: .any :: .any :: .any :: .any :: .any :: .any :: .any :: .any :: .any :: .any :: .any :: .any :: .any :: .any :: .any :: []))
          ⟨5, [(4, .row (encEv e) 41 12), (2, .row (re ev) 41 m), (3, .row (re t) 41 mt)]⟩ := by
        intro bb hbb j34 j35 j36 j37 j38 j39 j40 j41 j42 j43 j44 j45 j46 j47 j48 j49 j50 j51 j52 j53 j54 j55 j56 j57 j58 j59 j60 j61 j62 j63 j64 j65 j66 j67
        (with_reducible refine hK' _ _ ?_); clear hK' K'
        (repeat (first | with_reducible refine e_seq ?_ | with_reducible refine c_seq ?_ | with_reducible refine c_block ?_ | with_reducible refine c_skip ?_ | with_reducible refine c_exit ?_ | with_reducible refine c_ret ?_ | with_reducible refine e_seq_ret ?_ | with_reducible refine e_seq_exit ?_ | with_reducible refine e_block_ret ?_ | with_reducible refine e_block_exit ?_ | with_reducible refine e_block ?_ | with_reducible refine e_block_other rfl ?_ | with_reducible refine e_loop_exit ?_ | with_reducible refine e_loop_ret ?_ | ((with_reducible refine c_region (fun K' hK' => ?_)); (conv => whnf); (repeat (first | (refine And.intro rfl ?_; (conv => whnf)) | (refine And.intro (by decide) ?_; (conv => whnf)))); (with_reducible refine hK' _ _ ?_); clear hK' K')))
        (with_reducible refine c_region (fun K' hK' => ?_)); (conv => whnf); (repeat (first | (refine And.intro rfl ?_; (conv => whnf)) | (refine And.intro (by decide) ?_; (conv => whnf))))
        have hok2 : ∀ x ∈ t, EvOk x := fun x hx => hok x (by rw [htt] at hx; exact (rot_perm ev k).mem_iff.1 hx)
        have hre : rightB (t.filter keepB) = rightB (ev.filter keepB) := by rw [htt]; exact rightB_perm ((rot_perm ev k).filter keepB)
        refine Right_call (l := t) (by first | exact List.Mem.head _ | exact .tail _ (.head _) | exact .tail _ (.tail _ (.head _)) | exact .tail _ (.tail _ (.tail _ (.head _))) | exact .tail _ (.tail _ (.tail _ (.tail _ (.head _)))) | exact .tail _ (.tail _ (.tail _ (.tail _ (.tail _ (.head _))))) | exact .tail _ (.tail _ (.tail _ (.tail _ (.tail _ (.tail _ (.head _)))))) | exact .tail _ (.tail _ (.tail _ (.tail _ (.tail _ (.tail _ (.tail _ (.head _))))))) | exact .tail _ (.tail _ (.tail _ (.tail _ (.tail _ (.tail _ (.tail _ (.tail _ (.head _))))))))) cov_ro (by simp) (by omega) (by omega) hok2 ?_
        rw [hre]
        generalize hR : rightB (ev.filter keepB) = R
        (conv => whnf); (repeat (first | (refine And.intro rfl ?_; (conv => whnf)) | (refine And.intro (by decide) ?_; (conv => whnf))))
        refine Right_call (l := ev) (by first | exact List.Mem.head _ | exact .tail _ (.head _) | exact .tail _ (.tail _ (.head _)) | exact .tail _ (.tail _ (.tail _ (.head _))) | exact .tail _ (.tail _ (.tail _ (.tail _ (.head _)))) | exact .tail _ (.tail _ (.tail _ (.tail _ (.tail _ (.head _))))) | exact .tail _ (.tail _ (.tail _ (.tail _ (.tail _ (.tail _ (.head _)))))) | exact .tail _ (.tail _ (.tail _ (.tail _ (.tail _ (.tail _ (.tail _ (.head _))))))) | exact .tail _ (.tail _ (.tail _ (.tail _ (.tail _ (.tail _ (.tail _ (.tail _ (.head _))))))))) cov_ro (by simp) (by omega) (by omega) hok ?_
        rw [hR]
        (conv => whnf); (repeat (first | (refine And.intro rfl ?_; (conv => whnf)) | (refine And.intro (by decide) ?_; (conv => whnf))))
        rw [show (R == R) = true by simp]
        (conv => whnf); (repeat (first | (refine And.intro rfl ?_; (conv => whnf)) | (refine And.intro (by decide) ?_; (conv => whnf))))
        cases hb2 : bb
        · (conv => whnf); (repeat (first | (refine And.intro rfl ?_; (conv => whnf)) | (refine And.intro (by decide) ?_; (conv => whnf))))
          (with_reducible refine hK' _ _ ?_); clear hK' K'
          (repeat (first | with_reducible refine e_seq ?_ | with_reducible refine c_seq ?_ | with_reducible refine c_block ?_ | with_reducible refine c_skip ?_ | with_reducible refine c_exit ?_ | with_reducible refine c_ret ?_ | with_reducible refine e_seq_ret ?_ | with_reducible refine e_seq_exit ?_ | with_reducible refine e_block_ret ?_ | with_reducible refine e_block_exit ?_ | with_reducible refine e_block ?_ | with_reducible refine e_block_other rfl ?_ | with_reducible refine e_loop_exit ?_ | with_reducible refine e_loop_ret ?_ | ((with_reducible refine c_region (fun K' hK' => ?_)); (conv => whnf); (repeat (first | (refine And.intro rfl ?_; (conv => whnf)) | (refine And.intro (by decide) ?_; (conv => whnf)))); (with_reducible refine hK' _ _ ?_); clear hK' K')))
          exact ret_id (es := []) (Nat.le_refl _) (by simp) trivial trivial (by simp) hK
        · (conv => whnf); (repeat (first | (refine And.intro rfl ?_; (conv => whnf)) | (refine And.intro (by decide) ?_; (conv => whnf))))
          refine ⟨⟨by simp; omega, by simp; omega⟩, ?_⟩
          (conv => whnf); (repeat (first | (refine And.intro rfl ?_; (conv => whnf)) | (refine And.intro (by decide) ?_; (conv => whnf))))
          refine ⟨⟨rfl, rfl, re_len t, hmt⟩, fun c3 hc3 => ?_⟩
          (conv => whnf); (repeat (first | (refine And.intro rfl ?_; (conv => whnf)) | (refine And.intro (by decide) ?_; (conv => whnf))))
          rw [show t.length + (0 + 1) = (t ++ [e]).length by simp]
          refine Right_call (a := 6) (l := t ++ [e]) (o := .row (re t ++ encEv e) 41 (c3 * 12)) (by first | exact List.Mem.head _ | exact .tail _ (.head _) | exact .tail _ (.tail _ (.head _)) | exact .tail _ (.tail _ (.tail _ (.head _))) | exact .tail _ (.tail _ (.tail _ (.tail _ (.head _)))) | exact .tail _ (.tail _ (.tail _ (.tail _ (.tail _ (.head _))))) | exact .tail _ (.tail _ (.tail _ (.tail _ (.tail _ (.tail _ (.head _)))))) | exact .tail _ (.tail _ (.tail _ (.tail _ (.tail _ (.tail _ (.tail _ (.head _))))))) | exact .tail _ (.tail _ (.tail _ (.tail _ (.tail _ (.tail _ (.tail _ (.tail _ (.head _))))))))) (by rw [re_app]; exact cov_ro) (by simp) (by simp) (by simp; omega) (fun x hx => ?_) ?_
          · rcases List.mem_append.1 hx with h | h
            · exact hok2 x h
            · rw [List.mem_singleton] at h; subst h; exact hok2 _ hem
          rw [right_twice hem (by rw [← hbb]; exact hb2)]
          (conv => whnf); (repeat (first | (refine And.intro rfl ?_; (conv => whnf)) | (refine And.intro (by decide) ?_; (conv => whnf))))
          (with_reducible refine hK' _ _ ?_); clear hK' K'
          (repeat (first | with_reducible refine e_seq ?_ | with_reducible refine c_seq ?_ | with_reducible refine c_block ?_ | with_reducible refine c_skip ?_ | with_reducible refine c_exit ?_ | with_reducible refine c_ret ?_ | with_reducible refine e_seq_ret ?_ | with_reducible refine e_seq_exit ?_ | with_reducible refine e_block_ret ?_ | with_reducible refine e_block_exit ?_ | with_reducible refine e_block ?_ | with_reducible refine e_block_other rfl ?_ | with_reducible refine e_loop_exit ?_ | with_reducible refine e_loop_ret ?_ | ((with_reducible refine c_region (fun K' hK' => ?_)); (conv => whnf); (repeat (first | (refine And.intro rfl ?_; (conv => whnf)) | (refine And.intro (by decide) ?_; (conv => whnf)))); (with_reducible refine hK' _ _ ?_); clear hK' K')))
          exact ret_id (es := []) (Nat.le_refl _) (by simp) trivial trivial (by simp) hK
      clear hK' hK
      cases g1 : decide (e.fin ≥ 0)
      · (conv => whnf); (repeat (first | (refine And.intro rfl ?_; (conv => whnf)) | (refine And.intro (by decide) ?_; (conv => whnf))))
        exact key false (by simp [goodB, g1]) _ _ _ _ _ _ _ _ _ _ _ _ _ _ _ _ _ _ _ _ _ _ _ _ _ _ _ _ _ _ _ _ _ _
      · (conv => whnf); (repeat (first | (refine And.intro rfl ?_; (conv => whnf)) | (refine And.intro (by decide) ?_; (conv => whnf))))
        cases g2 : e.err == 0
        · (conv => whnf); (repeat (first | (refine And.intro rfl ?_; (conv => whnf)) | (refine And.intro (by decide) ?_; (conv => whnf))))
          exact key false (by simp [goodB, g2]) _ _ _ _ _ _ _ _ _ _ _ _ _ _ _ _ _ _ _ _ _ _ _ _ _ _ _ _ _ _ _ _ _ _
        · (conv => whnf); (repeat (first | (refine And.intro rfl ?_; (conv => whnf)) | (refine And.intro (by decide) ?_; (conv => whnf))))
          exact key _ (by simp only [goodB, g1, g2, Bool.true_and]) _ _ _ _ _ _ _ _ _ _ _ _ _ _ _ _ _ _ _ _ _ _ _ _ _ _ _ _ _ _ _ _ _ _
end Go.Proofs.Ytfphhdcpjoajbaa
