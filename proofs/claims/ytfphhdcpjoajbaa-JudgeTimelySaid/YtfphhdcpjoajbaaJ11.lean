import Derived.Test.YtfphhdcpjoajbaaJ10
namespace Go.Proofs.Ytfphhdcpjoajbaa
open Go.VM Go.RowKit
set_option linter.unusedSimpArgs false
set_option maxRecDepth 100000 in
theorem New_spec (K : VV → Heap → Prop) (hK : K (.ptr 2 0) ⟨3, [(2, .row [.map 1] 63 1), (1, .map [])]⟩) : Gam Try.prog 12 [] ⟨1, []⟩ K := by
  refine gam_enter Try.tok (by kernel_rfl) Try.func12 rfl rfl rfl ?_
  refine c_seq ?_
  (repeat (first | with_reducible refine e_seq ?_ | with_reducible refine c_seq ?_ | with_reducible refine c_block ?_ | with_reducible refine c_skip ?_ | with_reducible refine c_exit ?_ | with_reducible refine c_ret ?_ | with_reducible refine e_seq_ret ?_ | with_reducible refine e_seq_exit ?_ | with_reducible refine e_block_ret ?_ | with_reducible refine e_block_exit ?_ | with_reducible refine e_block ?_ | with_reducible refine e_block_other rfl ?_ | with_reducible refine e_loop_exit ?_ | with_reducible refine e_loop_ret ?_ | ((with_reducible refine c_region (fun K' hK' => ?_)); (conv => whnf); (repeat (refine And.intro rfl ?_; (conv => whnf))); (with_reducible refine hK' _ _ ?_); clear hK' K')))
  exact ret_id (n := 3) (es := [(2, .row [.map 1] 63 1), (1, .map [])]) (by simp) (by simp) (by simp [wf, wf1, sc]) ((ess_same (by simp) (by first | exact trivial | (simp [VObj.wf, scL, sc]; done) | exact wf_ro (by first | assumption | exact flatRb _ | exact flatH _ | exact flatE _ | exact flatRe _ | (repeat (first | exact FlatL.nil | refine FlatL.int ?_ | refine FlatL.bool ?_ | refine FlatL.str ?_)); done) | exact wf_row (by first | assumption | exact flatRb _ | exact flatH _ | exact flatE _ | exact flatRe _ | (repeat (first | exact FlatL.nil | refine FlatL.int ?_ | refine FlatL.bool ?_ | refine FlatL.str ?_)); done)) (by first | exact List.Mem.head _ | exact .tail _ (.head _) | exact .tail _ (.tail _ (.head _)) | exact .tail _ (.tail _ (.tail _ (.head _))) | exact .tail _ (.tail _ (.tail _ (.tail _ (.head _)))) | exact .tail _ (.tail _ (.tail _ (.tail _ (.tail _ (.head _))))) | exact .tail _ (.tail _ (.tail _ (.tail _ (.tail _ (.tail _ (.head _)))))) | exact .tail _ (.tail _ (.tail _ (.tail _ (.tail _ (.tail _ (.tail _ (.head _))))))) | exact .tail _ (.tail _ (.tail _ (.tail _ (.tail _ (.tail _ (.tail _ (.tail _ (.head _))))))))) (ess_same (by simp) (by first | exact trivial | (simp [VObj.wf, scL, sc]; done) | exact wf_ro (by first | assumption | exact flatRb _ | exact flatH _ | exact flatE _ | exact flatRe _ | (repeat (first | exact FlatL.nil | refine FlatL.int ?_ | refine FlatL.bool ?_ | refine FlatL.str ?_)); done) | exact wf_row (by first | assumption | exact flatRb _ | exact flatH _ | exact flatE _ | exact flatRe _ | (repeat (first | exact FlatL.nil | refine FlatL.int ?_ | refine FlatL.bool ?_ | refine FlatL.str ?_)); done)) (by first | exact List.Mem.head _ | exact .tail _ (.head _) | exact .tail _ (.tail _ (.head _)) | exact .tail _ (.tail _ (.tail _ (.head _))) | exact .tail _ (.tail _ (.tail _ (.tail _ (.head _)))) | exact .tail _ (.tail _ (.tail _ (.tail _ (.tail _ (.head _))))) | exact .tail _ (.tail _ (.tail _ (.tail _ (.tail _ (.tail _ (.head _)))))) | exact .tail _ (.tail _ (.tail _ (.tail _ (.tail _ (.tail _ (.tail _ (.head _))))))) | exact .tail _ (.tail _ (.tail _ (.tail _ (.tail _ (.tail _ (.tail _ (.tail _ (.head _))))))))) trivial))) (by simp) hK
structure Rec3 where
  ver : Int
  gone : Bool
  val : ByteArray
def encRec (r : Rec3) : List VV := [.int .i64 r.ver, .bool r.gone, .str r.val]
def zeroRec : Rec3 := ⟨0, false, ⟨#[]⟩⟩
def zeroRes : Res3 := ⟨0, false, ⟨#[]⟩⟩
abbrev MapM := ByteArray → Rec3
structure Rep (es : List (VV × VV)) (m : MapM) : Prop where
  str : AllStr es
  val : ∀ s v, (VV.str s, v) ∈ es → v = .agg (encRec (m s))
  zero : ∀ s, (∀ e ∈ es, e.1 ≠ .str s) → m s = zeroRec
  nd : es.Pairwise fun a b => a.1 ≠ b.1
theorem Rep.nil : Rep [] fun _ => zeroRec := ⟨by simp [AllStr], by simp, fun _ _ => rfl, .nil⟩
def upd (m : MapM) (k : ByteArray) (r : Rec3) : MapM := fun s => if s = k then r else m s
theorem Rep.set {es : List (VV × VV)} {m : MapM} (h : Rep es m) {j : Nat} {k : ByteArray} {v : VV} (hj : es[j]? = some (.str k, v)) (r : Rec3) : Rep (es.set j (.str k, .agg (encRec r))) (upd m k r) := by
  obtain ⟨hjl, hjv⟩ := List.getElem?_eq_some_iff.1 hj
  have hnd := List.pairwise_iff_getElem.1 h.nd
  refine ⟨?_, ?_, ?_, ?_⟩
  · intro e he
    rcases List.mem_or_eq_of_mem_set he with he | rfl
    · exact h.str e he
    · exact ⟨k, rfl⟩
  · intro s v' hv
    obtain ⟨i, hi, hiv⟩ := List.mem_iff_getElem.1 hv
    rw [List.getElem_set] at hiv
    have hi' : i < es.length := by simpa using hi
    unfold upd
    by_cases hij : j = i
    · rw [if_pos hij] at hiv
      simp only [Prod.mk.injEq, VV.str.injEq] at hiv
      rw [if_pos hiv.1.symm, ← hiv.2]
    · rw [if_neg hij] at hiv
      have hmem : (VV.str s, v') ∈ es := by rw [← hiv]; exact List.getElem_mem hi'
      have hne : ¬ s = k := by
        rintro rfl
        rcases Nat.lt_or_gt_of_ne hij with h1 | h1
        · exact hnd j i hjl hi' h1 (by rw [hjv, hiv])
        · exact hnd i j hi' hjl h1 (by rw [hjv, hiv])
      rw [if_neg hne]
      exact h.val s v' hmem
  · intro s hs
    unfold upd
    by_cases hk : s = k
    · subst hk
      exact absurd rfl (hs (.str s, .agg (encRec r)) (by have := List.getElem_mem (l := es.set j (.str s, .agg (encRec r))) (n := j) (by simpa using hjl); rwa [List.getElem_set_self] at this))
    · rw [if_neg hk]
      refine h.zero s fun e he => ?_
      obtain ⟨i, hi, rfl⟩ := List.mem_iff_getElem.1 he
      by_cases hij : j = i
      · subst hij
        rw [hjv]
        intro e; simp at e; exact hk e.symm
      · refine hs _ ?_
        have := List.getElem_mem (l := es.set j (.str k, .agg (encRec r))) (n := i) (by simpa using hi)
        rwa [List.getElem_set, if_neg hij] at this
  · rw [List.pairwise_iff_getElem]
    intro a b ha hb hab
    simp only [List.length_set] at ha hb
    simp only [List.getElem_set]
    have := hnd a b ha hb hab
    split
    · split
      · omega
      · subst_vars; rw [hjv] at this; exact this
    · split
      · subst_vars; rw [hjv] at this; exact this
      · exact this
theorem Rep.add {es : List (VV × VV)} {m : MapM} (h : Rep es m) {k : ByteArray} (hk : ∀ e ∈ es, e.1 ≠ .str k) (r : Rec3) : Rep (es ++ [(.str k, .agg (encRec r))]) (upd m k r) := by
  refine ⟨?_, ?_, ?_, ?_⟩
  · intro e he
    rcases List.mem_append.1 he with he | he
    · exact h.str e he
    · simp at he; exact ⟨k, by rw [he]⟩
  · intro s v hv
    unfold upd
    rcases List.mem_append.1 hv with hv | hv
    · have : ¬ s = k := fun e => hk _ hv (by rw [e])
      rw [if_neg this]; exact h.val s v hv
    · simp at hv; rw [if_pos hv.1]; exact hv.2
  · intro s hs
    unfold upd
    have : ¬ s = k := fun e => hs (.str k, .agg (encRec r)) (by simp) (by rw [e])
    rw [if_neg this]
    exact h.zero s fun e he => hs e (by simp [he])
  · rw [List.pairwise_append]
    refine ⟨h.nd, by simp, fun a ha b hb => ?_⟩
    simp at hb; rw [hb]; exact hk a ha
theorem Rep.look {es : List (VV × VV)} {m : MapM} (h : Rep es m) {s : ByteArray} {K : VV → Prop} {z : VV} (hz : z = .agg (encRec zeroRec)) (k : K (.agg (encRec (m s)))) :
    AllStr es ∧ ((∀ v, (.str s, v) ∈ es → K v) ∧ ((∀ e ∈ es, e.1 ≠ .str s) → K z)) :=
  ⟨h.str, fun v hv => by rw [h.val s v hv]; exact k, fun hn => by rw [h.zero s hn] at k; rw [hz]; exact k⟩
theorem Rep.put {es : List (VV × VV)} {m : MapM} (h : Rep es m) {s : ByteArray} {v : VV} (r : Rec3) (hv : v = .agg (encRec r)) {Ko : VObj → Prop} (k : ∀ es', Rep es' (upd m s r) → Ko (.map es')) :
    AllStr es ∧ ((∀ j u, es[j]? = some (.str s, u) → Ko (.map (es.set j (.str s, v)))) ∧ ((∀ e ∈ es, e.1 ≠ .str s) → Ko (.map (es ++ [(.str s, v)])))) := by
  subst hv
  exact ⟨h.str, fun j u hj => k _ (h.set hj r), fun hn => k _ (h.add hn r)⟩
theorem Rep.wf {es : List (VV × VV)} {m : MapM} (h : Rep es m) (n : Nat) : (VObj.map es).wf n := by
  intro e he
  obtain ⟨s, hs⟩ := h.str e he
  have := h.val s e.2 (by rw [← hs]; exact he)
  rw [hs, this]
  exact ⟨trivial, by simp [wf1, encRec, scL, sc]⟩
def doM (m : MapM) (o : Op4) : MapM × Res3 × Int :=
  if o.kind = 1 then (m, ⟨(m o.key).ver, decide (0 < (m o.key).ver) && !(m o.key).gone, (m o.key).val⟩, 0)
  else if o.kind = 5 then (m, zeroRes, 0)
  else if o.kind = 4 ∧ o.ver ≠ (m o.key).ver then (m, zeroRes, 12)
  else (upd m o.key ⟨IntKind.i64.wrap ((m o.key).ver + 1), decide (o.kind = 3), if o.kind = 3 then ⟨#[]⟩ else o.val⟩, ⟨IntKind.i64.wrap ((m o.key).ver + 1), false, ⟨#[]⟩⟩, 0)
theorem Try.hsz : ∀ (t : TypeId) y, Try.T[t]? = some y → y.kind.isAgg = false → y.kind.good = true → y.size = 1 := by
  have h : (Try.T.all fun y => y.kind.isAgg || !y.kind.good || y.size == 1) = true := by kernel_rfl
  intro t y hy h1 h2
  have := List.all_eq_true.1 h y (List.mem_of_getElem? hy)
  simp [h1, h2] at this
  exact this
theorem wf_res (n : Nat) (r : Res3) (k : Int) : wf n (.tup [.agg (encRes r), .int .i64 k]) := by simp [wf, wf1, scL, sc, encRes]
theorem wf_res3 {n : Nat} {a k : Int} {b : Bool} {s : ByteArray} : wf n (.tup [.agg [.int .i64 a, .bool b, .str s], .int .i64 k]) := by simp [wf, wf1, scL, sc]
def mH (es : List (VV × VV)) : Heap := ⟨3, [(2, .row [.map 1] 63 1), (1, .map es)]⟩
set_option maxRecDepth 100000 in
theorem Do_spec (m : MapM) (o : Op4) (es : List (VV × VV)) (hr : Rep es m)
    (K : VV → Heap → Prop) (hK : ∀ es', Rep es' (doM m o).1 → K (.tup [.agg (encRes (doM m o).2.1), .int .i64 (doM m o).2.2]) (mH es')) :
    Gam Try.prog 13 [.ptr 2 0, .agg (encOp o)] (mH es) K := by
  unfold mH at hK ⊢
  refine gam_enter Try.tok (by kernel_rfl) Try.func13 rfl rfl rfl ?_
  refine c_seq ?_
  (repeat (first | with_reducible refine e_seq ?_ | with_reducible refine c_seq ?_ | with_reducible refine c_block ?_ | with_reducible refine c_skip ?_ | with_reducible refine c_exit ?_ | with_reducible refine c_ret ?_ | with_reducible refine e_seq_ret ?_ | with_reducible refine e_seq_exit ?_ | with_reducible refine e_block_ret ?_ | with_reducible refine e_block_exit ?_ | with_reducible refine e_block ?_ | with_reducible refine e_block_other rfl ?_ | with_reducible refine e_loop_exit ?_ | with_reducible refine e_loop_ret ?_ | ((with_reducible refine c_region (fun K' hK' => ?_)); (conv => whnf); (repeat (refine And.intro rfl ?_; (conv => whnf))); (with_reducible refine hK' _ _ ?_); clear hK' K')))
  refine c_cond_f (by (conv => whnf) <;> rfl) ?_
  (repeat (first | with_reducible refine e_seq ?_ | with_reducible refine c_seq ?_ | with_reducible refine c_block ?_ | with_reducible refine c_skip ?_ | with_reducible refine c_exit ?_ | with_reducible refine c_ret ?_ | with_reducible refine e_seq_ret ?_ | with_reducible refine e_seq_exit ?_ | with_reducible refine e_block_ret ?_ | with_reducible refine e_block_exit ?_ | with_reducible refine e_block ?_ | with_reducible refine e_block_other rfl ?_ | with_reducible refine e_loop_exit ?_ | with_reducible refine e_loop_ret ?_ | ((with_reducible refine c_region (fun K' hK' => ?_)); (conv => whnf); (repeat (refine And.intro rfl ?_; (conv => whnf))); (with_reducible refine hK' _ _ ?_); clear hK' K')))
  refine c_draw' Try.tok Try.mixed (.take 0 (.take 1 (.take 2 (.take 3 (.take 4 (.take 5 (.eff2 6 7 (.eff 7 (.eff 8 (.done))) (.eff 6 (.eff 8 (.done)))))))))) [] (by kernel_rfl) (fun K' hK' => ?_); (conv => whnf); (repeat (refine And.intro rfl ?_; (conv => whnf)))
  have key : ∀ (j10 j11 j12 j13 j14 j15 j16 : VV), K' ((.ptr 2 0 :: .agg (encOp o) :: .tup [] :: .ptr 3 0 :: .ptr 4 0 :: .int .i64 0 :: .ptr 5 0 :: .ptr 2 0 :: .bool false :: .tup [] :: j10 :: j11 :: j12 :: j13 :: j14 :: j15 :: j16 :: .tup [] :: .tup [] :: .tup [] :: .tup [] :: .tup [] :: .tup [] :: .tup [] :: .tup [] :: .tup [] :: .tup [] :: .tup [] :: .tup [] :: .tup [] :: .tup [] :: .tup [] :: .tup [] :: .tup [] :: .tup [] :: .tup [] :: .tup [] :: .tup [] :: .tup [] :: .tup [] :: .tup [] :: .tup [] :: .tup [] :: .tup [] :: .tup [] :: .tup [] :: .tup [] :: .tup [] :: .tup [] :: .tup [] :: .tup [] :: .tup [] :: .tup [] :: .tup [] :: .tup [] :: .tup [] :: .tup [] :: .tup [] :: .tup [] :: .tup [] :: .tup [] :: .tup [] :: .tup [] :: .tup [] :: .tup [] :: .tup [] :: .tup [] :: .tup [] :: [])) ⟨6, [(5, .row (encRec (m o.key)) 65 3), (4, .row (encRes zeroRes) 39 3), (3, .row (encOp o) 36 4), (2, .row [.map 1] 63 1), (1, .map es)]⟩ := by
    intro j10 j11 j12 j13 j14 j15 j16
    (with_reducible refine hK' _ _ ?_); clear hK' K'
    (repeat (first | with_reducible refine e_seq ?_ | with_reducible refine c_seq ?_ | with_reducible refine c_block ?_ | with_reducible refine c_skip ?_ | with_reducible refine c_exit ?_ | with_reducible refine c_ret ?_ | with_reducible refine e_seq_ret ?_ | with_reducible refine e_seq_exit ?_ | with_reducible refine e_block_ret ?_ | with_reducible refine e_block_exit ?_ | with_reducible refine e_block ?_ | with_reducible refine e_block_other rfl ?_ | with_reducible refine e_loop_exit ?_ | with_reducible refine e_loop_ret ?_ | ((with_reducible refine c_region (fun K' hK' => ?_)); (conv => whnf); (repeat (refine And.intro rfl ?_; (conv => whnf))); (with_reducible refine hK' _ _ ?_); clear hK' K')))
    refine c_cond (by (conv => whnf) <;> rfl) (fun h1 => ?_) (fun h1 => ?_)
    · have h1 : o.kind = 1 := by simpa using h1
      have e : doM m o = (m, ⟨(m o.key).ver, decide (0 < (m o.key).ver) && !(m o.key).gone, (m o.key).val⟩, 0) := by simp [doM, h1]
      rw [e] at hK
      refine c_seq ?_
      (with_reducible refine c_region (fun K' hK' => ?_)); (conv => whnf); (repeat (refine And.intro rfl ?_; (conv => whnf)))
      cases hv : decide ((m o.key).ver > 0)
      · have hv' : decide (0 < (m o.key).ver) = false := hv
        simp only [hv', Bool.false_and] at hK
        (conv => whnf); (repeat (refine And.intro rfl ?_; (conv => whnf)))
        (with_reducible refine hK' _ _ ?_); clear hK' K'
        (repeat (first | with_reducible refine e_seq ?_ | with_reducible refine c_seq ?_ | with_reducible refine c_block ?_ | with_reducible refine c_skip ?_ | with_reducible refine c_exit ?_ | with_reducible refine c_ret ?_ | with_reducible refine e_seq_ret ?_ | with_reducible refine e_seq_exit ?_ | with_reducible refine e_block_ret ?_ | with_reducible refine e_block_exit ?_ | with_reducible refine e_block ?_ | with_reducible refine e_block_other rfl ?_ | with_reducible refine e_loop_exit ?_ | with_reducible refine e_loop_ret ?_ | ((with_reducible refine c_region (fun K' hK' => ?_)); (conv => whnf); (repeat (refine And.intro rfl ?_; (conv => whnf))); (with_reducible refine hK' _ _ ?_); clear hK' K')))
        exact ret_id (es := [(2, .row [.map 1] 63 1), (1, .map es)]) (Nat.le_refl _) (by simp) wf_res3 (ess_same (by simp) (by simp [VObj.wf, scL, sc]) (by first | exact List.Mem.head _ | exact .tail _ (.head _) | exact .tail _ (.tail _ (.head _)) | exact .tail _ (.tail _ (.tail _ (.head _))) | exact .tail _ (.tail _ (.tail _ (.tail _ (.head _)))) | exact .tail _ (.tail _ (.tail _ (.tail _ (.tail _ (.head _))))) | exact .tail _ (.tail _ (.tail _ (.tail _ (.tail _ (.tail _ (.head _)))))) | exact .tail _ (.tail _ (.tail _ (.tail _ (.tail _ (.tail _ (.tail _ (.head _))))))) | exact .tail _ (.tail _ (.tail _ (.tail _ (.tail _ (.tail _ (.tail _ (.tail _ (.head _))))))))) (ess_same (by simp) (Rep.wf hr _) (by first | exact List.Mem.head _ | exact .tail _ (.head _) | exact .tail _ (.tail _ (.head _)) | exact .tail _ (.tail _ (.tail _ (.head _))) | exact .tail _ (.tail _ (.tail _ (.tail _ (.head _)))) | exact .tail _ (.tail _ (.tail _ (.tail _ (.tail _ (.head _))))) | exact .tail _ (.tail _ (.tail _ (.tail _ (.tail _ (.tail _ (.head _)))))) | exact .tail _ (.tail _ (.tail _ (.tail _ (.tail _ (.tail _ (.tail _ (.head _))))))) | exact .tail _ (.tail _ (.tail _ (.tail _ (.tail _ (.tail _ (.tail _ (.tail _ (.head _))))))))) trivial)) (by simp) (hK es hr)
      · have hv' : decide (0 < (m o.key).ver) = true := hv
        simp only [hv', Bool.true_and] at hK
        (conv => whnf); (repeat (refine And.intro rfl ?_; (conv => whnf)))
        (with_reducible refine hK' _ _ ?_); clear hK' K'
        (repeat (first | with_reducible refine e_seq ?_ | with_reducible refine c_seq ?_ | with_reducible refine c_block ?_ | with_reducible refine c_skip ?_ | with_reducible refine c_exit ?_ | with_reducible refine c_ret ?_ | with_reducible refine e_seq_ret ?_ | with_reducible refine e_seq_exit ?_ | with_reducible refine e_block_ret ?_ | with_reducible refine e_block_exit ?_ | with_reducible refine e_block ?_ | with_reducible refine e_block_other rfl ?_ | with_reducible refine e_loop_exit ?_ | with_reducible refine e_loop_ret ?_ | ((with_reducible refine c_region (fun K' hK' => ?_)); (conv => whnf); (repeat (refine And.intro rfl ?_; (conv => whnf))); (with_reducible refine hK' _ _ ?_); clear hK' K')))
        exact ret_id (es := [(2, .row [.map 1] 63 1), (1, .map es)]) (Nat.le_refl _) (by simp) wf_res3 (ess_same (by simp) (by simp [VObj.wf, scL, sc]) (by first | exact List.Mem.head _ | exact .tail _ (.head _) | exact .tail _ (.tail _ (.head _)) | exact .tail _ (.tail _ (.tail _ (.head _))) | exact .tail _ (.tail _ (.tail _ (.tail _ (.head _)))) | exact .tail _ (.tail _ (.tail _ (.tail _ (.tail _ (.head _))))) | exact .tail _ (.tail _ (.tail _ (.tail _ (.tail _ (.tail _ (.head _)))))) | exact .tail _ (.tail _ (.tail _ (.tail _ (.tail _ (.tail _ (.tail _ (.head _))))))) | exact .tail _ (.tail _ (.tail _ (.tail _ (.tail _ (.tail _ (.tail _ (.tail _ (.head _))))))))) (ess_same (by simp) (Rep.wf hr _) (by first | exact List.Mem.head _ | exact .tail _ (.head _) | exact .tail _ (.tail _ (.head _)) | exact .tail _ (.tail _ (.tail _ (.head _))) | exact .tail _ (.tail _ (.tail _ (.tail _ (.head _)))) | exact .tail _ (.tail _ (.tail _ (.tail _ (.tail _ (.head _))))) | exact .tail _ (.tail _ (.tail _ (.tail _ (.tail _ (.tail _ (.head _)))))) | exact .tail _ (.tail _ (.tail _ (.tail _ (.tail _ (.tail _ (.tail _ (.head _))))))) | exact .tail _ (.tail _ (.tail _ (.tail _ (.tail _ (.tail _ (.tail _ (.tail _ (.head _))))))))) trivial)) (by simp) (hK es hr)
    · have h1 : ¬ o.kind = 1 := by simpa using h1
      (repeat (first | with_reducible refine e_seq ?_ | with_reducible refine c_seq ?_ | with_reducible refine c_block ?_ | with_reducible refine c_skip ?_ | with_reducible refine c_exit ?_ | with_reducible refine c_ret ?_ | with_reducible refine e_seq_ret ?_ | with_reducible refine e_seq_exit ?_ | with_reducible refine e_block_ret ?_ | with_reducible refine e_block_exit ?_ | with_reducible refine e_block ?_ | with_reducible refine e_block_other rfl ?_ | with_reducible refine e_loop_exit ?_ | with_reducible refine e_loop_ret ?_ | ((with_reducible refine c_region (fun K' hK' => ?_)); (conv => whnf); (repeat (refine And.intro rfl ?_; (conv => whnf))); (with_reducible refine hK' _ _ ?_); clear hK' K')))
      refine c_cond (by (conv => whnf) <;> rfl) (fun h2 => ?_) (fun h2 => ?_)
      · have h2 : o.kind = 5 := by simpa using h2
        have e : doM m o = (m, zeroRes, 0) := by simp [doM, h2]
        rw [e] at hK
        (repeat (first | with_reducible refine e_seq ?_ | with_reducible refine c_seq ?_ | with_reducible refine c_block ?_ | with_reducible refine c_skip ?_ | with_reducible refine c_exit ?_ | with_reducible refine c_ret ?_ | with_reducible refine e_seq_ret ?_ | with_reducible refine e_seq_exit ?_ | with_reducible refine e_block_ret ?_ | with_reducible refine e_block_exit ?_ | with_reducible refine e_block ?_ | with_reducible refine e_block_other rfl ?_ | with_reducible refine e_loop_exit ?_ | with_reducible refine e_loop_ret ?_ | ((with_reducible refine c_region (fun K' hK' => ?_)); (conv => whnf); (repeat (refine And.intro rfl ?_; (conv => whnf))); (with_reducible refine hK' _ _ ?_); clear hK' K')))
        exact ret_id (es := [(2, .row [.map 1] 63 1), (1, .map es)]) (Nat.le_refl _) (by simp) wf_res3 (ess_same (by simp) (by simp [VObj.wf, scL, sc]) (by first | exact List.Mem.head _ | exact .tail _ (.head _) | exact .tail _ (.tail _ (.head _)) | exact .tail _ (.tail _ (.tail _ (.head _))) | exact .tail _ (.tail _ (.tail _ (.tail _ (.head _)))) | exact .tail _ (.tail _ (.tail _ (.tail _ (.tail _ (.head _))))) | exact .tail _ (.tail _ (.tail _ (.tail _ (.tail _ (.tail _ (.head _)))))) | exact .tail _ (.tail _ (.tail _ (.tail _ (.tail _ (.tail _ (.tail _ (.head _))))))) | exact .tail _ (.tail _ (.tail _ (.tail _ (.tail _ (.tail _ (.tail _ (.tail _ (.head _))))))))) (ess_same (by simp) (Rep.wf hr _) (by first | exact List.Mem.head _ | exact .tail _ (.head _) | exact .tail _ (.tail _ (.head _)) | exact .tail _ (.tail _ (.tail _ (.head _))) | exact .tail _ (.tail _ (.tail _ (.tail _ (.head _)))) | exact .tail _ (.tail _ (.tail _ (.tail _ (.tail _ (.head _))))) | exact .tail _ (.tail _ (.tail _ (.tail _ (.tail _ (.tail _ (.head _)))))) | exact .tail _ (.tail _ (.tail _ (.tail _ (.tail _ (.tail _ (.tail _ (.head _))))))) | exact .tail _ (.tail _ (.tail _ (.tail _ (.tail _ (.tail _ (.tail _ (.tail _ (.head _))))))))) trivial)) (by simp) (hK es hr)
      · have h2 : ¬ o.kind = 5 := by simpa using h2
        (repeat (first | with_reducible refine e_seq ?_ | with_reducible refine c_seq ?_ | with_reducible refine c_block ?_ | with_reducible refine c_skip ?_ | with_reducible refine c_exit ?_ | with_reducible refine c_ret ?_ | with_reducible refine e_seq_ret ?_ | with_reducible refine e_seq_exit ?_ | with_reducible refine e_block_ret ?_ | with_reducible refine e_block_exit ?_ | with_reducible refine e_block ?_ | with_reducible refine e_block_other rfl ?_ | with_reducible refine e_loop_exit ?_ | with_reducible refine e_loop_ret ?_ | ((with_reducible refine c_region (fun K' hK' => ?_)); (conv => whnf); (repeat (refine And.intro rfl ?_; (conv => whnf))); (with_reducible refine hK' _ _ ?_); clear hK' K')))
        refine c_cond (by (conv => whnf) <;> rfl) (fun h4 => ?_) (fun h4 => ?_)
        · have h4 : o.kind = 4 := by simpa using h4
          (repeat (first | with_reducible refine e_seq ?_ | with_reducible refine c_seq ?_ | with_reducible refine c_block ?_ | with_reducible refine c_skip ?_ | with_reducible refine c_exit ?_ | with_reducible refine c_ret ?_ | with_reducible refine e_seq_ret ?_ | with_reducible refine e_seq_exit ?_ | with_reducible refine e_block_ret ?_ | with_reducible refine e_block_exit ?_ | with_reducible refine e_block ?_ | with_reducible refine e_block_other rfl ?_ | with_reducible refine e_loop_exit ?_ | with_reducible refine e_loop_ret ?_ | ((with_reducible refine c_region (fun K' hK' => ?_)); (conv => whnf); (repeat (refine And.intro rfl ?_; (conv => whnf))); (with_reducible refine hK' _ _ ?_); clear hK' K')))
          refine c_cond (by (conv => whnf) <;> rfl) (fun h5 => ?_) (fun h5 => ?_)
          · have h5 : o.ver ≠ (m o.key).ver := by simpa using h5
            have e : doM m o = (m, zeroRes, 12) := by simp [doM, h4, h5]
            rw [e] at hK
            (repeat (first | with_reducible refine e_seq ?_ | with_reducible refine c_seq ?_ | with_reducible refine c_block ?_ | with_reducible refine c_skip ?_ | with_reducible refine c_exit ?_ | with_reducible refine c_ret ?_ | with_reducible refine e_seq_ret ?_ | with_reducible refine e_seq_exit ?_ | with_reducible refine e_block_ret ?_ | with_reducible refine e_block_exit ?_ | with_reducible refine e_block ?_ | with_reducible refine e_block_other rfl ?_ | with_reducible refine e_loop_exit ?_ | with_reducible refine e_loop_ret ?_ | ((with_reducible refine c_region (fun K' hK' => ?_)); (conv => whnf); (repeat (refine And.intro rfl ?_; (conv => whnf))); (with_reducible refine hK' _ _ ?_); clear hK' K')))
            exact ret_id (es := [(2, .row [.map 1] 63 1), (1, .map es)]) (Nat.le_refl _) (by simp) wf_res3 (ess_same (by simp) (by simp [VObj.wf, scL, sc]) (by first | exact List.Mem.head _ | exact .tail _ (.head _) | exact .tail _ (.tail _ (.head _)) | exact .tail _ (.tail _ (.tail _ (.head _))) | exact .tail _ (.tail _ (.tail _ (.tail _ (.head _)))) | exact .tail _ (.tail _ (.tail _ (.tail _ (.tail _ (.head _))))) | exact .tail _ (.tail _ (.tail _ (.tail _ (.tail _ (.tail _ (.head _)))))) | exact .tail _ (.tail _ (.tail _ (.tail _ (.tail _ (.tail _ (.tail _ (.head _))))))) | exact .tail _ (.tail _ (.tail _ (.tail _ (.tail _ (.tail _ (.tail _ (.tail _ (.head _))))))))) (ess_same (by simp) (Rep.wf hr _) (by first | exact List.Mem.head _ | exact .tail _ (.head _) | exact .tail _ (.tail _ (.head _)) | exact .tail _ (.tail _ (.tail _ (.head _))) | exact .tail _ (.tail _ (.tail _ (.tail _ (.head _)))) | exact .tail _ (.tail _ (.tail _ (.tail _ (.tail _ (.head _))))) | exact .tail _ (.tail _ (.tail _ (.tail _ (.tail _ (.tail _ (.head _)))))) | exact .tail _ (.tail _ (.tail _ (.tail _ (.tail _ (.tail _ (.tail _ (.head _))))))) | exact .tail _ (.tail _ (.tail _ (.tail _ (.tail _ (.tail _ (.tail _ (.tail _ (.head _))))))))) trivial)) (by simp) (hK es hr)
          · have h5 : o.ver = (m o.key).ver := by simpa using h5
            have e : doM m o = (upd m o.key ⟨IntKind.i64.wrap ((m o.key).ver + 1), decide (o.kind = 3), if o.kind = 3 then ⟨#[]⟩ else o.val⟩, ⟨IntKind.i64.wrap ((m o.key).ver + 1), false, ⟨#[]⟩⟩, 0) := by
              unfold doM; rw [if_neg h1, if_neg h2, if_neg (fun h => h.2 h5)]
            rw [e] at hK
            (repeat (first | with_reducible refine e_seq ?_ | with_reducible refine c_seq ?_ | with_reducible refine c_block ?_ | with_reducible refine c_skip ?_ | with_reducible refine c_exit ?_ | with_reducible refine c_ret ?_ | with_reducible refine e_seq_ret ?_ | with_reducible refine e_seq_exit ?_ | with_reducible refine e_block_ret ?_ | with_reducible refine e_block_exit ?_ | with_reducible refine e_block ?_ | with_reducible refine e_block_other rfl ?_ | with_reducible refine e_loop_exit ?_ | with_reducible refine e_loop_ret ?_ | ((with_reducible refine c_region (fun K' hK' => ?_)); (conv => whnf); (repeat (refine And.intro rfl ?_; (conv => whnf))); (with_reducible refine hK' _ _ ?_); clear hK' K')))
            refine c_cond (by (conv => whnf) <;> rfl) (fun h3 => ?_) (fun h3 => ?_)
            · have h3 : o.kind = 3 := by simpa using h3
              simp only [h3, decide_true, if_true] at hK
              (repeat (first | with_reducible refine e_seq ?_ | with_reducible refine c_seq ?_ | with_reducible refine c_block ?_ | with_reducible refine c_skip ?_ | with_reducible refine c_exit ?_ | with_reducible refine c_ret ?_ | with_reducible refine e_seq_ret ?_ | with_reducible refine e_seq_exit ?_ | with_reducible refine e_block_ret ?_ | with_reducible refine e_block_exit ?_ | with_reducible refine e_block ?_ | with_reducible refine e_block_other rfl ?_ | with_reducible refine e_loop_exit ?_ | with_reducible refine e_loop_ret ?_ | ((with_reducible refine c_region (fun K' hK' => ?_)); (conv => whnf); (repeat (refine And.intro rfl ?_; (conv => whnf))); (with_reducible refine hK' _ _ ?_); clear hK' K')))
              refine c_draw' Try.tok Try.mixed (.take 0 (.take 1 (.take 2 (.take 3 (.take 4 (.take 5 (.take 6 (.take 7 (.take 8 (.take 9 (.take 10 (.take 11 (.take 12 (.take 13 (.take 14 (.eff 15 (.done))))))))))))))))) [1] (by kernel_rfl) (fun K' hK' => ?_); (conv => whnf); (repeat (refine And.intro rfl ?_; (conv => whnf)))
              rw [show (o.kind == (3 : Int)) = true by simp [h3]]
              refine sem_mapUpdate Try.tok rfl ?_
              (conv => whnf); (repeat (refine And.intro rfl ?_; (conv => whnf)))
              refine ⟨hr.str, fun j u hj => ?_, fun hn => ?_⟩
              · (conv => whnf); (repeat (refine And.intro rfl ?_; (conv => whnf)))
                (repeat (refine And.intro rfl ?_; (conv => whnf)))
                (with_reducible refine hK' _ _ ?_); clear hK' K'
                (repeat (first | with_reducible refine e_seq ?_ | with_reducible refine c_seq ?_ | with_reducible refine c_block ?_ | with_reducible refine c_skip ?_ | with_reducible refine c_exit ?_ | with_reducible refine c_ret ?_ | with_reducible refine e_seq_ret ?_ | with_reducible refine e_seq_exit ?_ | with_reducible refine e_block_ret ?_ | with_reducible refine e_block_exit ?_ | with_reducible refine e_block ?_ | with_reducible refine e_block_other rfl ?_ | with_reducible refine e_loop_exit ?_ | with_reducible refine e_loop_ret ?_ | ((with_reducible refine c_region (fun K' hK' => ?_)); (conv => whnf); (repeat (refine And.intro rfl ?_; (conv => whnf))); (with_reducible refine hK' _ _ ?_); clear hK' K')))
                exact ret_id (es := [(2, .row [.map 1] 63 1), (1, .map (es.set j (.str o.key, .agg (encRec ⟨IntKind.i64.wrap ((m o.key).ver + 1), true, ⟨#[]⟩⟩))))]) (Nat.le_refl _) (by simp) wf_res3 (ess_same (by simp) (by simp [VObj.wf, scL, sc]) (by first | exact List.Mem.head _ | exact .tail _ (.head _) | exact .tail _ (.tail _ (.head _)) | exact .tail _ (.tail _ (.tail _ (.head _))) | exact .tail _ (.tail _ (.tail _ (.tail _ (.head _)))) | exact .tail _ (.tail _ (.tail _ (.tail _ (.tail _ (.head _))))) | exact .tail _ (.tail _ (.tail _ (.tail _ (.tail _ (.tail _ (.head _)))))) | exact .tail _ (.tail _ (.tail _ (.tail _ (.tail _ (.tail _ (.tail _ (.head _))))))) | exact .tail _ (.tail _ (.tail _ (.tail _ (.tail _ (.tail _ (.tail _ (.tail _ (.head _))))))))) (ess_same (by simp) (Rep.wf (hr.set hj ⟨IntKind.i64.wrap ((m o.key).ver + 1), true, ⟨#[]⟩⟩) _) (by first | exact List.Mem.head _ | exact .tail _ (.head _) | exact .tail _ (.tail _ (.head _)) | exact .tail _ (.tail _ (.tail _ (.head _))) | exact .tail _ (.tail _ (.tail _ (.tail _ (.head _)))) | exact .tail _ (.tail _ (.tail _ (.tail _ (.tail _ (.head _))))) | exact .tail _ (.tail _ (.tail _ (.tail _ (.tail _ (.tail _ (.head _)))))) | exact .tail _ (.tail _ (.tail _ (.tail _ (.tail _ (.tail _ (.tail _ (.head _))))))) | exact .tail _ (.tail _ (.tail _ (.tail _ (.tail _ (.tail _ (.tail _ (.tail _ (.head _))))))))) trivial)) (by simp) (hK _ (hr.set hj ⟨IntKind.i64.wrap ((m o.key).ver + 1), true, ⟨#[]⟩⟩))
              · (conv => whnf); (repeat (refine And.intro rfl ?_; (conv => whnf)))
                (repeat (refine And.intro rfl ?_; (conv => whnf)))
                (with_reducible refine hK' _ _ ?_); clear hK' K'
                (repeat (first | with_reducible refine e_seq ?_ | with_reducible refine c_seq ?_ | with_reducible refine c_block ?_ | with_reducible refine c_skip ?_ | with_reducible refine c_exit ?_ | with_reducible refine c_ret ?_ | with_reducible refine e_seq_ret ?_ | with_reducible refine e_seq_exit ?_ | with_reducible refine e_block_ret ?_ | with_reducible refine e_block_exit ?_ | with_reducible refine e_block ?_ | with_reducible refine e_block_other rfl ?_ | with_reducible refine e_loop_exit ?_ | with_reducible refine e_loop_ret ?_ | ((with_reducible refine c_region (fun K' hK' => ?_)); (conv => whnf); (repeat (refine And.intro rfl ?_; (conv => whnf))); (with_reducible refine hK' _ _ ?_); clear hK' K')))
                exact ret_id (es := [(2, .row [.map 1] 63 1), (1, .map (es ++ [(.str o.key, .agg (encRec ⟨IntKind.i64.wrap ((m o.key).ver + 1), true, ⟨#[]⟩⟩))]))]) (Nat.le_refl _) (by simp) wf_res3 (ess_same (by simp) (by simp [VObj.wf, scL, sc]) (by first | exact List.Mem.head _ | exact .tail _ (.head _) | exact .tail _ (.tail _ (.head _)) | exact .tail _ (.tail _ (.tail _ (.head _))) | exact .tail _ (.tail _ (.tail _ (.tail _ (.head _)))) | exact .tail _ (.tail _ (.tail _ (.tail _ (.tail _ (.head _))))) | exact .tail _ (.tail _ (.tail _ (.tail _ (.tail _ (.tail _ (.head _)))))) | exact .tail _ (.tail _ (.tail _ (.tail _ (.tail _ (.tail _ (.tail _ (.head _))))))) | exact .tail _ (.tail _ (.tail _ (.tail _ (.tail _ (.tail _ (.tail _ (.tail _ (.head _))))))))) (ess_same (by simp) (Rep.wf (hr.add hn ⟨IntKind.i64.wrap ((m o.key).ver + 1), true, ⟨#[]⟩⟩) _) (by first | exact List.Mem.head _ | exact .tail _ (.head _) | exact .tail _ (.tail _ (.head _)) | exact .tail _ (.tail _ (.tail _ (.head _))) | exact .tail _ (.tail _ (.tail _ (.tail _ (.head _)))) | exact .tail _ (.tail _ (.tail _ (.tail _ (.tail _ (.head _))))) | exact .tail _ (.tail _ (.tail _ (.tail _ (.tail _ (.tail _ (.head _)))))) | exact .tail _ (.tail _ (.tail _ (.tail _ (.tail _ (.tail _ (.tail _ (.head _))))))) | exact .tail _ (.tail _ (.tail _ (.tail _ (.tail _ (.tail _ (.tail _ (.tail _ (.head _))))))))) trivial)) (by simp) (hK _ (hr.add hn ⟨IntKind.i64.wrap ((m o.key).ver + 1), true, ⟨#[]⟩⟩))
            · have h3 : ¬ o.kind = 3 := by simpa using h3
              simp only [h3, decide_false, if_false] at hK
              (repeat (first | with_reducible refine e_seq ?_ | with_reducible refine c_seq ?_ | with_reducible refine c_block ?_ | with_reducible refine c_skip ?_ | with_reducible refine c_exit ?_ | with_reducible refine c_ret ?_ | with_reducible refine e_seq_ret ?_ | with_reducible refine e_seq_exit ?_ | with_reducible refine e_block_ret ?_ | with_reducible refine e_block_exit ?_ | with_reducible refine e_block ?_ | with_reducible refine e_block_other rfl ?_ | with_reducible refine e_loop_exit ?_ | with_reducible refine e_loop_ret ?_ | ((with_reducible refine c_region (fun K' hK' => ?_)); (conv => whnf); (repeat (refine And.intro rfl ?_; (conv => whnf))); (with_reducible refine hK' _ _ ?_); clear hK' K')))
              refine c_draw' Try.tok Try.mixed (.take 0 (.take 1 (.take 2 (.take 3 (.take 4 (.take 5 (.take 6 (.take 7 (.take 8 (.take 9 (.take 10 (.take 11 (.take 12 (.take 13 (.take 14 (.eff 15 (.done))))))))))))))))) [1] (by kernel_rfl) (fun K' hK' => ?_); (conv => whnf); (repeat (refine And.intro rfl ?_; (conv => whnf)))
              rw [show (o.kind == (3 : Int)) = false by simp [h3]]
              refine sem_mapUpdate Try.tok rfl ?_
              (conv => whnf); (repeat (refine And.intro rfl ?_; (conv => whnf)))
              refine ⟨hr.str, fun j u hj => ?_, fun hn => ?_⟩
              · (conv => whnf); (repeat (refine And.intro rfl ?_; (conv => whnf)))
                (repeat (refine And.intro rfl ?_; (conv => whnf)))
                (with_reducible refine hK' _ _ ?_); clear hK' K'
                (repeat (first | with_reducible refine e_seq ?_ | with_reducible refine c_seq ?_ | with_reducible refine c_block ?_ | with_reducible refine c_skip ?_ | with_reducible refine c_exit ?_ | with_reducible refine c_ret ?_ | with_reducible refine e_seq_ret ?_ | with_reducible refine e_seq_exit ?_ | with_reducible refine e_block_ret ?_ | with_reducible refine e_block_exit ?_ | with_reducible refine e_block ?_ | with_reducible refine e_block_other rfl ?_ | with_reducible refine e_loop_exit ?_ | with_reducible refine e_loop_ret ?_ | ((with_reducible refine c_region (fun K' hK' => ?_)); (conv => whnf); (repeat (refine And.intro rfl ?_; (conv => whnf))); (with_reducible refine hK' _ _ ?_); clear hK' K')))
                exact ret_id (es := [(2, .row [.map 1] 63 1), (1, .map (es.set j (.str o.key, .agg (encRec ⟨IntKind.i64.wrap ((m o.key).ver + 1), false, o.val⟩))))]) (Nat.le_refl _) (by simp) wf_res3 (ess_same (by simp) (by simp [VObj.wf, scL, sc]) (by first | exact List.Mem.head _ | exact .tail _ (.head _) | exact .tail _ (.tail _ (.head _)) | exact .tail _ (.tail _ (.tail _ (.head _))) | exact .tail _ (.tail _ (.tail _ (.tail _ (.head _)))) | exact .tail _ (.tail _ (.tail _ (.tail _ (.tail _ (.head _))))) | exact .tail _ (.tail _ (.tail _ (.tail _ (.tail _ (.tail _ (.head _)))))) | exact .tail _ (.tail _ (.tail _ (.tail _ (.tail _ (.tail _ (.tail _ (.head _))))))) | exact .tail _ (.tail _ (.tail _ (.tail _ (.tail _ (.tail _ (.tail _ (.tail _ (.head _))))))))) (ess_same (by simp) (Rep.wf (hr.set hj ⟨IntKind.i64.wrap ((m o.key).ver + 1), false, o.val⟩) _) (by first | exact List.Mem.head _ | exact .tail _ (.head _) | exact .tail _ (.tail _ (.head _)) | exact .tail _ (.tail _ (.tail _ (.head _))) | exact .tail _ (.tail _ (.tail _ (.tail _ (.head _)))) | exact .tail _ (.tail _ (.tail _ (.tail _ (.tail _ (.head _))))) | exact .tail _ (.tail _ (.tail _ (.tail _ (.tail _ (.tail _ (.head _)))))) | exact .tail _ (.tail _ (.tail _ (.tail _ (.tail _ (.tail _ (.tail _ (.head _))))))) | exact .tail _ (.tail _ (.tail _ (.tail _ (.tail _ (.tail _ (.tail _ (.tail _ (.head _))))))))) trivial)) (by simp) (hK _ (hr.set hj ⟨IntKind.i64.wrap ((m o.key).ver + 1), false, o.val⟩))
              · (conv => whnf); (repeat (refine And.intro rfl ?_; (conv => whnf)))
                (repeat (refine And.intro rfl ?_; (conv => whnf)))
                (with_reducible refine hK' _ _ ?_); clear hK' K'
                (repeat (first | with_reducible refine e_seq ?_ | with_reducible refine c_seq ?_ | with_reducible refine c_block ?_ | with_reducible refine c_skip ?_ | with_reducible refine c_exit ?_ | with_reducible refine c_ret ?_ | with_reducible refine e_seq_ret ?_ | with_reducible refine e_seq_exit ?_ | with_reducible refine e_block_ret ?_ | with_reducible refine e_block_exit ?_ | with_reducible refine e_block ?_ | with_reducible refine e_block_other rfl ?_ | with_reducible refine e_loop_exit ?_ | with_reducible refine e_loop_ret ?_ | ((with_reducible refine c_region (fun K' hK' => ?_)); (conv => whnf); (repeat (refine And.intro rfl ?_; (conv => whnf))); (with_reducible refine hK' _ _ ?_); clear hK' K')))
                exact ret_id (es := [(2, .row [.map 1] 63 1), (1, .map (es ++ [(.str o.key, .agg (encRec ⟨IntKind.i64.wrap ((m o.key).ver + 1), false, o.val⟩))]))]) (Nat.le_refl _) (by simp) wf_res3 (ess_same (by simp) (by simp [VObj.wf, scL, sc]) (by first | exact List.Mem.head _ | exact .tail _ (.head _) | exact .tail _ (.tail _ (.head _)) | exact .tail _ (.tail _ (.tail _ (.head _))) | exact .tail _ (.tail _ (.tail _ (.tail _ (.head _)))) | exact .tail _ (.tail _ (.tail _ (.tail _ (.tail _ (.head _))))) | exact .tail _ (.tail _ (.tail _ (.tail _ (.tail _ (.tail _ (.head _)))))) | exact .tail _ (.tail _ (.tail _ (.tail _ (.tail _ (.tail _ (.tail _ (.head _))))))) | exact .tail _ (.tail _ (.tail _ (.tail _ (.tail _ (.tail _ (.tail _ (.tail _ (.head _))))))))) (ess_same (by simp) (Rep.wf (hr.add hn ⟨IntKind.i64.wrap ((m o.key).ver + 1), false, o.val⟩) _) (by first | exact List.Mem.head _ | exact .tail _ (.head _) | exact .tail _ (.tail _ (.head _)) | exact .tail _ (.tail _ (.tail _ (.head _))) | exact .tail _ (.tail _ (.tail _ (.tail _ (.head _)))) | exact .tail _ (.tail _ (.tail _ (.tail _ (.tail _ (.head _))))) | exact .tail _ (.tail _ (.tail _ (.tail _ (.tail _ (.tail _ (.head _)))))) | exact .tail _ (.tail _ (.tail _ (.tail _ (.tail _ (.tail _ (.tail _ (.head _))))))) | exact .tail _ (.tail _ (.tail _ (.tail _ (.tail _ (.tail _ (.tail _ (.tail _ (.head _))))))))) trivial)) (by simp) (hK _ (hr.add hn ⟨IntKind.i64.wrap ((m o.key).ver + 1), false, o.val⟩))
        · have h4 : ¬ o.kind = 4 := by simpa using h4
          have e : doM m o = (upd m o.key ⟨IntKind.i64.wrap ((m o.key).ver + 1), decide (o.kind = 3), if o.kind = 3 then ⟨#[]⟩ else o.val⟩, ⟨IntKind.i64.wrap ((m o.key).ver + 1), false, ⟨#[]⟩⟩, 0) := by
            unfold doM; rw [if_neg h1, if_neg h2, if_neg (fun h => h4 h.1)]
          rw [e] at hK
          (repeat (first | with_reducible refine e_seq ?_ | with_reducible refine c_seq ?_ | with_reducible refine c_block ?_ | with_reducible refine c_skip ?_ | with_reducible refine c_exit ?_ | with_reducible refine c_ret ?_ | with_reducible refine e_seq_ret ?_ | with_reducible refine e_seq_exit ?_ | with_reducible refine e_block_ret ?_ | with_reducible refine e_block_exit ?_ | with_reducible refine e_block ?_ | with_reducible refine e_block_other rfl ?_ | with_reducible refine e_loop_exit ?_ | with_reducible refine e_loop_ret ?_ | ((with_reducible refine c_region (fun K' hK' => ?_)); (conv => whnf); (repeat (refine And.intro rfl ?_; (conv => whnf))); (with_reducible refine hK' _ _ ?_); clear hK' K')))
          refine c_cond (by (conv => whnf) <;> rfl) (fun h3 => ?_) (fun h3 => ?_)
          · have h3 : o.kind = 3 := by simpa using h3
            simp only [h3, decide_true, if_true] at hK
            (repeat (first | with_reducible refine e_seq ?_ | with_reducible refine c_seq ?_ | with_reducible refine c_block ?_ | with_reducible refine c_skip ?_ | with_reducible refine c_exit ?_ | with_reducible refine c_ret ?_ | with_reducible refine e_seq_ret ?_ | with_reducible refine e_seq_exit ?_ | with_reducible refine e_block_ret ?_ | with_reducible refine e_block_exit ?_ | with_reducible refine e_block ?_ | with_reducible refine e_block_other rfl ?_ | with_reducible refine e_loop_exit ?_ | with_reducible refine e_loop_ret ?_ | ((with_reducible refine c_region (fun K' hK' => ?_)); (conv => whnf); (repeat (refine And.intro rfl ?_; (conv => whnf))); (with_reducible refine hK' _ _ ?_); clear hK' K')))
            refine c_draw' Try.tok Try.mixed (.take 0 (.take 1 (.take 2 (.take 3 (.take 4 (.take 5 (.take 6 (.take 7 (.take 8 (.take 9 (.take 10 (.take 11 (.take 12 (.take 13 (.take 14 (.eff 15 (.done))))))))))))))))) [1] (by kernel_rfl) (fun K' hK' => ?_); (conv => whnf); (repeat (refine And.intro rfl ?_; (conv => whnf)))
            rw [show (o.kind == (3 : Int)) = true by simp [h3]]
            refine sem_mapUpdate Try.tok rfl ?_
            (conv => whnf); (repeat (refine And.intro rfl ?_; (conv => whnf)))
            refine ⟨hr.str, fun j u hj => ?_, fun hn => ?_⟩
            · (conv => whnf); (repeat (refine And.intro rfl ?_; (conv => whnf)))
              (repeat (refine And.intro rfl ?_; (conv => whnf)))
              (with_reducible refine hK' _ _ ?_); clear hK' K'
              (repeat (first | with_reducible refine e_seq ?_ | with_reducible refine c_seq ?_ | with_reducible refine c_block ?_ | with_reducible refine c_skip ?_ | with_reducible refine c_exit ?_ | with_reducible refine c_ret ?_ | with_reducible refine e_seq_ret ?_ | with_reducible refine e_seq_exit ?_ | with_reducible refine e_block_ret ?_ | with_reducible refine e_block_exit ?_ | with_reducible refine e_block ?_ | with_reducible refine e_block_other rfl ?_ | with_reducible refine e_loop_exit ?_ | with_reducible refine e_loop_ret ?_ | ((with_reducible refine c_region (fun K' hK' => ?_)); (conv => whnf); (repeat (refine And.intro rfl ?_; (conv => whnf))); (with_reducible refine hK' _ _ ?_); clear hK' K')))
              exact ret_id (es := [(2, .row [.map 1] 63 1), (1, .map (es.set j (.str o.key, .agg (encRec ⟨IntKind.i64.wrap ((m o.key).ver + 1), true, ⟨#[]⟩⟩))))]) (Nat.le_refl _) (by simp) wf_res3 (ess_same (by simp) (by simp [VObj.wf, scL, sc]) (by first | exact List.Mem.head _ | exact .tail _ (.head _) | exact .tail _ (.tail _ (.head _)) | exact .tail _ (.tail _ (.tail _ (.head _))) | exact .tail _ (.tail _ (.tail _ (.tail _ (.head _)))) | exact .tail _ (.tail _ (.tail _ (.tail _ (.tail _ (.head _))))) | exact .tail _ (.tail _ (.tail _ (.tail _ (.tail _ (.tail _ (.head _)))))) | exact .tail _ (.tail _ (.tail _ (.tail _ (.tail _ (.tail _ (.tail _ (.head _))))))) | exact .tail _ (.tail _ (.tail _ (.tail _ (.tail _ (.tail _ (.tail _ (.tail _ (.head _))))))))) (ess_same (by simp) (Rep.wf (hr.set hj ⟨IntKind.i64.wrap ((m o.key).ver + 1), true, ⟨#[]⟩⟩) _) (by first | exact List.Mem.head _ | exact .tail _ (.head _) | exact .tail _ (.tail _ (.head _)) | exact .tail _ (.tail _ (.tail _ (.head _))) | exact .tail _ (.tail _ (.tail _ (.tail _ (.head _)))) | exact .tail _ (.tail _ (.tail _ (.tail _ (.tail _ (.head _))))) | exact .tail _ (.tail _ (.tail _ (.tail _ (.tail _ (.tail _ (.head _)))))) | exact .tail _ (.tail _ (.tail _ (.tail _ (.tail _ (.tail _ (.tail _ (.head _))))))) | exact .tail _ (.tail _ (.tail _ (.tail _ (.tail _ (.tail _ (.tail _ (.tail _ (.head _))))))))) trivial)) (by simp) (hK _ (hr.set hj ⟨IntKind.i64.wrap ((m o.key).ver + 1), true, ⟨#[]⟩⟩))
            · (conv => whnf); (repeat (refine And.intro rfl ?_; (conv => whnf)))
              (repeat (refine And.intro rfl ?_; (conv => whnf)))
              (with_reducible refine hK' _ _ ?_); clear hK' K'
              (repeat (first | with_reducible refine e_seq ?_ | with_reducible refine c_seq ?_ | with_reducible refine c_block ?_ | with_reducible refine c_skip ?_ | with_reducible refine c_exit ?_ | with_reducible refine c_ret ?_ | with_reducible refine e_seq_ret ?_ | with_reducible refine e_seq_exit ?_ | with_reducible refine e_block_ret ?_ | with_reducible refine e_block_exit ?_ | with_reducible refine e_block ?_ | with_reducible refine e_block_other rfl ?_ | with_reducible refine e_loop_exit ?_ | with_reducible refine e_loop_ret ?_ | ((with_reducible refine c_region (fun K' hK' => ?_)); (conv => whnf); (repeat (refine And.intro rfl ?_; (conv => whnf))); (with_reducible refine hK' _ _ ?_); clear hK' K')))
              exact ret_id (es := [(2, .row [.map 1] 63 1), (1, .map (es ++ [(.str o.key, .agg (encRec ⟨IntKind.i64.wrap ((m o.key).ver + 1), true, ⟨#[]⟩⟩))]))]) (Nat.le_refl _) (by simp) wf_res3 (ess_same (by simp) (by simp [VObj.wf, scL, sc]) (by first | exact List.Mem.head _ | exact .tail _ (.head _) | exact .tail _ (.tail _ (.head _)) | exact .tail _ (.tail _ (.tail _ (.head _))) | exact .tail _ (.tail _ (.tail _ (.tail _ (.head _)))) | exact .tail _ (.tail _ (.tail _ (.tail _ (.tail _ (.head _))))) | exact .tail _ (.tail _ (.tail _ (.tail _ (.tail _ (.tail _ (.head _)))))) | exact .tail _ (.tail _ (.tail _ (.tail _ (.tail _ (.tail _ (.tail _ (.head _))))))) | exact .tail _ (.tail _ (.tail _ (.tail _ (.tail _ (.tail _ (.tail _ (.tail _ (.head _))))))))) (ess_same (by simp) (Rep.wf (hr.add hn ⟨IntKind.i64.wrap ((m o.key).ver + 1), true, ⟨#[]⟩⟩) _) (by first | exact List.Mem.head _ | exact .tail _ (.head _) | exact .tail _ (.tail _ (.head _)) | exact .tail _ (.tail _ (.tail _ (.head _))) | exact .tail _ (.tail _ (.tail _ (.tail _ (.head _)))) | exact .tail _ (.tail _ (.tail _ (.tail _ (.tail _ (.head _))))) | exact .tail _ (.tail _ (.tail _ (.tail _ (.tail _ (.tail _ (.head _)))))) | exact .tail _ (.tail _ (.tail _ (.tail _ (.tail _ (.tail _ (.tail _ (.head _))))))) | exact .tail _ (.tail _ (.tail _ (.tail _ (.tail _ (.tail _ (.tail _ (.tail _ (.head _))))))))) trivial)) (by simp) (hK _ (hr.add hn ⟨IntKind.i64.wrap ((m o.key).ver + 1), true, ⟨#[]⟩⟩))
          · have h3 : ¬ o.kind = 3 := by simpa using h3
            simp only [h3, decide_false, if_false] at hK
            (repeat (first | with_reducible refine e_seq ?_ | with_reducible refine c_seq ?_ | with_reducible refine c_block ?_ | with_reducible refine c_skip ?_ | with_reducible refine c_exit ?_ | with_reducible refine c_ret ?_ | with_reducible refine e_seq_ret ?_ | with_reducible refine e_seq_exit ?_ | with_reducible refine e_block_ret ?_ | with_reducible refine e_block_exit ?_ | with_reducible refine e_block ?_ | with_reducible refine e_block_other rfl ?_ | with_reducible refine e_loop_exit ?_ | with_reducible refine e_loop_ret ?_ | ((with_reducible refine c_region (fun K' hK' => ?_)); (conv => whnf); (repeat (refine And.intro rfl ?_; (conv => whnf))); (with_reducible refine hK' _ _ ?_); clear hK' K')))
            refine c_draw' Try.tok Try.mixed (.take 0 (.take 1 (.take 2 (.take 3 (.take 4 (.take 5 (.take 6 (.take 7 (.take 8 (.take 9 (.take 10 (.take 11 (.take 12 (.take 13 (.take 14 (.eff 15 (.done))))))))))))))))) [1] (by kernel_rfl) (fun K' hK' => ?_); (conv => whnf); (repeat (refine And.intro rfl ?_; (conv => whnf)))
            rw [show (o.kind == (3 : Int)) = false by simp [h3]]
            refine sem_mapUpdate Try.tok rfl ?_
            (conv => whnf); (repeat (refine And.intro rfl ?_; (conv => whnf)))
            refine ⟨hr.str, fun j u hj => ?_, fun hn => ?_⟩
            · (conv => whnf); (repeat (refine And.intro rfl ?_; (conv => whnf)))
              (repeat (refine And.intro rfl ?_; (conv => whnf)))
              (with_reducible refine hK' _ _ ?_); clear hK' K'
              (repeat (first | with_reducible refine e_seq ?_ | with_reducible refine c_seq ?_ | with_reducible refine c_block ?_ | with_reducible refine c_skip ?_ | with_reducible refine c_exit ?_ | with_reducible refine c_ret ?_ | with_reducible refine e_seq_ret ?_ | with_reducible refine e_seq_exit ?_ | with_reducible refine e_block_ret ?_ | with_reducible refine e_block_exit ?_ | with_reducible refine e_block ?_ | with_reducible refine e_block_other rfl ?_ | with_reducible refine e_loop_exit ?_ | with_reducible refine e_loop_ret ?_ | ((with_reducible refine c_region (fun K' hK' => ?_)); (conv => whnf); (repeat (refine And.intro rfl ?_; (conv => whnf))); (with_reducible refine hK' _ _ ?_); clear hK' K')))
              exact ret_id (es := [(2, .row [.map 1] 63 1), (1, .map (es.set j (.str o.key, .agg (encRec ⟨IntKind.i64.wrap ((m o.key).ver + 1), false, o.val⟩))))]) (Nat.le_refl _) (by simp) wf_res3 (ess_same (by simp) (by simp [VObj.wf, scL, sc]) (by first | exact List.Mem.head _ | exact .tail _ (.head _) | exact .tail _ (.tail _ (.head _)) | exact .tail _ (.tail _ (.tail _ (.head _))) | exact .tail _ (.tail _ (.tail _ (.tail _ (.head _)))) | exact .tail _ (.tail _ (.tail _ (.tail _ (.tail _ (.head _))))) | exact .tail _ (.tail _ (.tail _ (.tail _ (.tail _ (.tail _ (.head _)))))) | exact .tail _ (.tail _ (.tail _ (.tail _ (.tail _ (.tail _ (.tail _ (.head _))))))) | exact .tail _ (.tail _ (.tail _ (.tail _ (.tail _ (.tail _ (.tail _ (.tail _ (.head _))))))))) (ess_same (by simp) (Rep.wf (hr.set hj ⟨IntKind.i64.wrap ((m o.key).ver + 1), false, o.val⟩) _) (by first | exact List.Mem.head _ | exact .tail _ (.head _) | exact .tail _ (.tail _ (.head _)) | exact .tail _ (.tail _ (.tail _ (.head _))) | exact .tail _ (.tail _ (.tail _ (.tail _ (.head _)))) | exact .tail _ (.tail _ (.tail _ (.tail _ (.tail _ (.head _))))) | exact .tail _ (.tail _ (.tail _ (.tail _ (.tail _ (.tail _ (.head _)))))) | exact .tail _ (.tail _ (.tail _ (.tail _ (.tail _ (.tail _ (.tail _ (.head _))))))) | exact .tail _ (.tail _ (.tail _ (.tail _ (.tail _ (.tail _ (.tail _ (.tail _ (.head _))))))))) trivial)) (by simp) (hK _ (hr.set hj ⟨IntKind.i64.wrap ((m o.key).ver + 1), false, o.val⟩))
            · (conv => whnf); (repeat (refine And.intro rfl ?_; (conv => whnf)))
              (repeat (refine And.intro rfl ?_; (conv => whnf)))
              (with_reducible refine hK' _ _ ?_); clear hK' K'
              (repeat (first | with_reducible refine e_seq ?_ | with_reducible refine c_seq ?_ | with_reducible refine c_block ?_ | with_reducible refine c_skip ?_ | with_reducible refine c_exit ?_ | with_reducible refine c_ret ?_ | with_reducible refine e_seq_ret ?_ | with_reducible refine e_seq_exit ?_ | with_reducible refine e_block_ret ?_ | with_reducible refine e_block_exit ?_ | with_reducible refine e_block ?_ | with_reducible refine e_block_other rfl ?_ | with_reducible refine e_loop_exit ?_ | with_reducible refine e_loop_ret ?_ | ((with_reducible refine c_region (fun K' hK' => ?_)); (conv => whnf); (repeat (refine And.intro rfl ?_; (conv => whnf))); (with_reducible refine hK' _ _ ?_); clear hK' K')))
              exact ret_id (es := [(2, .row [.map 1] 63 1), (1, .map (es ++ [(.str o.key, .agg (encRec ⟨IntKind.i64.wrap ((m o.key).ver + 1), false, o.val⟩))]))]) (Nat.le_refl _) (by simp) wf_res3 (ess_same (by simp) (by simp [VObj.wf, scL, sc]) (by first | exact List.Mem.head _ | exact .tail _ (.head _) | exact .tail _ (.tail _ (.head _)) | exact .tail _ (.tail _ (.tail _ (.head _))) | exact .tail _ (.tail _ (.tail _ (.tail _ (.head _)))) | exact .tail _ (.tail _ (.tail _ (.tail _ (.tail _ (.head _))))) | exact .tail _ (.tail _ (.tail _ (.tail _ (.tail _ (.tail _ (.head _)))))) | exact .tail _ (.tail _ (.tail _ (.tail _ (.tail _ (.tail _ (.tail _ (.head _))))))) | exact .tail _ (.tail _ (.tail _ (.tail _ (.tail _ (.tail _ (.tail _ (.tail _ (.head _))))))))) (ess_same (by simp) (Rep.wf (hr.add hn ⟨IntKind.i64.wrap ((m o.key).ver + 1), false, o.val⟩) _) (by first | exact List.Mem.head _ | exact .tail _ (.head _) | exact .tail _ (.tail _ (.head _)) | exact .tail _ (.tail _ (.tail _ (.head _))) | exact .tail _ (.tail _ (.tail _ (.tail _ (.head _)))) | exact .tail _ (.tail _ (.tail _ (.tail _ (.tail _ (.head _))))) | exact .tail _ (.tail _ (.tail _ (.tail _ (.tail _ (.tail _ (.head _)))))) | exact .tail _ (.tail _ (.tail _ (.tail _ (.tail _ (.tail _ (.tail _ (.head _))))))) | exact .tail _ (.tail _ (.tail _ (.tail _ (.tail _ (.tail _ (.tail _ (.tail _ (.head _))))))))) trivial)) (by simp) (hK _ (hr.add hn ⟨IntKind.i64.wrap ((m o.key).ver + 1), false, o.val⟩))
  refine ⟨?_, ?_⟩
  · conv => whnf
    refine sem_lookup Try.tok rfl Try.hsz ?_
    (conv => whnf); (repeat (refine And.intro rfl ?_; (conv => whnf)))
    refine hr.look rfl ?_
    (conv => whnf); (repeat (refine And.intro rfl ?_; (conv => whnf)))
    (repeat (refine And.intro rfl ?_; (conv => whnf)))
    exact key _ _ _ _ _ _ _
  · conv => whnf
    (repeat (refine And.intro rfl ?_; (conv => whnf)))
    refine sem_lookup Try.tok rfl Try.hsz ?_
    (conv => whnf); (repeat (refine And.intro rfl ?_; (conv => whnf)))
    refine hr.look rfl ?_
    (conv => whnf); (repeat (refine And.intro rfl ?_; (conv => whnf)))
    (repeat (refine And.intro rfl ?_; (conv => whnf)))
    exact key _ _ _ _ _ _ _
end Go.Proofs.Ytfphhdcpjoajbaa
