import Derived.Test.YtfphhdcpjoajbaaJ15
namespace Go.Proofs.Ytfphhdcpjoajbaa
open Go.VM Go.RowKit
def sK : ByteArray := ⟨#[107]⟩
def sV : ByteArray := ⟨#[118]⟩
def bo1 : Op4 := ⟨2, sK, sV, 0⟩
def bo2 : Op4 := ⟨1, sK, ⟨#[]⟩, 0⟩
def bo3 : Op4 := ⟨4, sK, ⟨#[]⟩, 5⟩
/-- a call of Map.Do from where more is known -/
theorem Do_call {H : Heap} {m : MapM} {o : Op4} {es : List (VV × VV)} (hr : Rep es m) (hn : 3 ≤ H.n) (h1 : (1, VObj.map es) ∈ H.es) (h2 : (2, VObj.row [.map 1] 63 1) ∈ H.es)
    {K : VV → Heap → Prop} (hK : ∀ es', Rep es' (doM m o).1 → K (.tup [.agg (encRes (doM m o).2.1), .int .i64 (doM m o).2.2]) ⟨H.n, (2, .row [.map 1] 63 1) :: (1, .map es') :: remEs [2, 1] H.es⟩) :
    Gam Try.prog 13 [.ptr 2 0, .agg (encOp o)] H K := by
  refine call_rule [1, 2] (h := ⟨3, [(2, .row [.map 1] 63 1), (1, .map es)]⟩) (args0 := [.ptr 2 0, .agg (encOp o)]) rfl (by simp [renL, ren, calT, encOp]) (by simp [wfArgs, wf, wf1, sc, scL, encOp]) (by simp; omega)
      ⟨⟨by simp, by simp [VObj.wf, scL, sc], _, h2, Cov.refl _⟩, ⟨by simp, hr.wf _, _, h1, by rw [hr.ren]; exact Cov.refl _⟩, trivial⟩ (by simp [Apart, calT]) ?_
  refine Do_spec m o es hr _ fun es' hr' => ?_
  intro r2 n2 es2 e1 e2 e3
  replace e3 : es2 = (2, .row [.map 1] 63 1) :: (1, .map es') :: remEs [2, 1] H.es := by
    rw [e3]; simp [mH, renEs, ownIds, VObj.owned, hr'.ren, calT]; exact rfl
  replace e1 : r2 = .tup [.agg (encRes (doM m o).2.1), .int .i64 (doM m o).2.2] := by rw [e1]; rfl
  replace e2 : n2 = H.n := by rw [e2]; simp [mH]
  subst e1; subst e2; subst e3
  exact hK es' hr'
def hh (b : UInt8) : H32 := ⟨b :: List.replicate 31 0, by simp⟩
theorem remEs_nil (es : List (Nat × VObj)) : remEs [] es = es := by simp [remEs]
theorem Forked_call {H : Heap} {a b oa ob ca cb : Nat} {o o' : VObj} {la lb : List H32} (ha : (a, o) ∈ H.es) (hac : Cov o (.ro oa (rb la))) (hb : (b, o') ∈ H.es) (hbc : Cov o' (.ro ob (rb lb))) (han : a < H.n) (hbn : b < H.n)
    (hla : la.length < 4611686018427387904) (hlb : lb.length < 4611686018427387904) (hca : la.length ≤ ca) (hcb : lb.length ≤ cb)
    {K : VV → Heap → Prop} (hK : K (.tup [.int .i64 (cpl la lb : Nat), .bool ((la.drop (cpl la lb)).any fun h => decide (h ∈ lb.drop (cpl la lb)))]) H) :
    Gam Try.prog 7 [.sl a oa la.length ca, .sl b ob lb.length cb] H K := by
  refine call_rule [a, b] (h := ⟨3, [(1, .ro oa (rb la)), (2, .ro ob (rb lb))]⟩) (args0 := [.sl 1 oa la.length ca, .sl 2 ob lb.length cb]) rfl (by simp [renL, ren, calT]) (by simp [wfArgs, wf, wf1, sc]) (by simp; exact ⟨han, hbn⟩)
    ⟨⟨by simp, wf_ro (flatRb _), o, ha, by simp only [VObj.ren, (flatRb _).1]; exact hac⟩, ⟨by simp, wf_ro (flatRb _), o', hb, by simp only [VObj.ren, (flatRb _).1]; exact hbc⟩, trivial⟩ (by simp [Apart, VObj.owned]) ?_
  refine Forked_spec la lb oa ca ob cb hla hlb hca hcb _ ?_
  intro r2 n2 es2 e1 e2 e3
  replace e3 : es2 = H.es := by rw [e3]; simp [renEs, ownIds, VObj.owned, remEs_nil]
  replace e2 : n2 = H.n := by rw [e2]; simp
  replace e1 : r2 = _ := e1
  subst e2; subst e3
  rw [e1]
  exact hK
theorem Parted_call {H : Heap} {a b oa ob ca cb : Nat} {o o' : VObj} {la lb : List H32} (ha : (a, o) ∈ H.es) (hac : Cov o (.ro oa (rb la))) (hb : (b, o') ∈ H.es) (hbc : Cov o' (.ro ob (rb lb))) (han : a < H.n) (hbn : b < H.n)
    (hla : la.length < 4611686018427387904) (hlb : lb.length < 4611686018427387904)
    {K : VV → Heap → Prop} (hK : K (.bool (!((la.drop (cpl la lb)).any fun h => decide (h ∈ lb.drop (cpl la lb))))) H) :
    Gam Try.prog 8 [.sl a oa la.length ca, .sl b ob lb.length cb] H K := by
  refine call_rule [a, b] (h := ⟨3, [(1, .ro oa (rb la)), (2, .ro ob (rb lb))]⟩) (args0 := [.sl 1 oa la.length ca, .sl 2 ob lb.length cb]) rfl (by simp [renL, ren, calT]) (by simp [wfArgs, wf, wf1, sc]) (by simp; exact ⟨han, hbn⟩)
    ⟨⟨by simp, wf_ro (flatRb _), o, ha, by simp only [VObj.ren, (flatRb _).1]; exact hac⟩, ⟨by simp, wf_ro (flatRb _), o', hb, by simp only [VObj.ren, (flatRb _).1]; exact hbc⟩, trivial⟩ (by simp [Apart, VObj.owned]) ?_
  refine Parted_spec la lb oa ca ob cb hla hlb _ ?_
  intro r2 n2 es2 e1 e2 e3
  replace e3 : es2 = H.es := by rw [e3]; simp [abH, renEs, ownIds, VObj.owned, remEs_nil]
  replace e2 : n2 = H.n := by rw [e2]; simp [abH]
  replace e1 : r2 = _ := e1
  subst e2; subst e3
  rw [e1]
  exact hK
theorem Right_call {H : Heap} {a off c : Nat} {o : VObj} {l : List Ev} (ha : (a, o) ∈ H.es) (hac : Cov o (.ro off (re l))) (han : a < H.n) (h0 : 0 < l.length) (hl : l.length < 20) (hev : ∀ e ∈ l, EvOk e)
    {K : VV → Heap → Prop} (hK : K (.bool (rightB (l.filter keepB))) H) : Gam Try.prog 10 [.sl a off l.length c] H K := by
  refine call_rule [a] (h := ⟨2, [(1, .ro off (re l))]⟩) (args0 := [.sl 1 off l.length c]) rfl (by simp [renL, ren, calT]) (by simp [wfArgs, wf, wf1, sc]) (by simp; exact han)
    ⟨⟨by simp, wf_ro (flatRe _), o, ha, by simp only [VObj.ren, (flatRe _).1]; exact hac⟩, trivial⟩ apart_one ?_
  refine Right_spec l off c h0 hl hev _ ?_
  intro r2 n2 es2 e1 e2 e3
  replace e3 : es2 = H.es := by rw [e3]; simp [renEs, ownIds, VObj.owned, remEs_nil]
  replace e2 : n2 = H.n := by rw [e2]; simp
  replace e1 : r2 = _ := e1
  subst e2; subst e3
  rw [e1]
  exact hK
theorem Timely_call {H : Heap} {a off c : Nat} {o : VObj} {l : List Ev} (ha : (a, o) ∈ H.es) (hac : Cov o (.ro off (re l))) (han : a < H.n) (h0 : 0 < l.length) (hl : l.length < 20)
    {K : VV → Heap → Prop} (hK : K (.bool (timelyB (l.filter keepB))) H) : Gam Try.prog 11 [.sl a off l.length c] H K := by
  refine call_rule [a] (h := ⟨2, [(1, .ro off (re l))]⟩) (args0 := [.sl 1 off l.length c]) rfl (by simp [renL, ren, calT]) (by simp [wfArgs, wf, wf1, sc]) (by simp; exact han)
    ⟨⟨by simp, wf_ro (flatRe _), o, ha, by simp only [VObj.ren, (flatRe _).1]; exact hac⟩, trivial⟩ apart_one ?_
  refine Timely_spec l off c h0 hl _ ?_
  intro r2 n2 es2 e1 e2 e3
  replace e3 : es2 = H.es := by rw [e3]; simp [renEs, ownIds, VObj.owned, remEs_nil]
  replace e2 : n2 = H.n := by rw [e2]; simp
  replace e1 : r2 = _ := e1
  subst e2; subst e3
  rw [e1]
  exact hK
def ex8 : Ev := ⟨1, ⟨2, sK, ⟨#[]⟩, 0⟩, 0, 3, 0, ⟨1, false, ⟨#[]⟩⟩, 1⟩
def ex9 : Ev := ⟨2, ⟨1, sK, ⟨#[]⟩, 0⟩, 4, 5, 0, ⟨1, true, ⟨#[]⟩⟩, 2⟩
def ex10 : Ev := ⟨2, ⟨1, sK, ⟨#[]⟩, 0⟩, 4, 5, 0, ⟨2, true, ⟨#[]⟩⟩, 2⟩
def bm1 : MapM := (doM (fun _ => zeroRec) bo1).1
theorem bd1 : (doM (fun _ => zeroRec) bo1).2 = (⟨1, false, ⟨#[]⟩⟩, 0) := by rfl
theorem bk1 : bm1 sK = ⟨1, false, sV⟩ := by rfl
theorem bd2 : doM bm1 bo2 = (bm1, ⟨1, true, sV⟩, 0) := by
  have h : doM bm1 bo2 = (bm1, ⟨(bm1 sK).ver, decide (0 < (bm1 sK).ver) && !(bm1 sK).gone, (bm1 sK).val⟩, 0) := rfl
  rw [h, bk1]; rfl
theorem bd3 : doM bm1 bo3 = (bm1, zeroRes, 12) := by
  have h : doM bm1 bo3 = if (5 : Int) ≠ (bm1 sK).ver then (bm1, zeroRes, 12) else (upd bm1 sK ⟨IntKind.i64.wrap ((bm1 sK).ver + 1), false, ⟨#[]⟩⟩, ⟨IntKind.i64.wrap ((bm1 sK).ver + 1), false, ⟨#[]⟩⟩, 0) := by
    unfold doM
    rw [if_neg (by decide), if_neg (by decide)]
    by_cases h5 : (5 : Int) ≠ (bm1 sK).ver
    · rw [if_pos ⟨rfl, h5⟩, if_pos h5]
    · rw [if_neg (fun h => h5 h.2), if_neg h5]; rfl
  rw [h, bk1]; rfl
theorem evOk_8 : EvOk ex8 := ⟨⟨by simp [I64, ex8], Nat.zero_le _⟩, Nat.zero_le _⟩
theorem evOk_9 : EvOk ex9 := ⟨⟨by simp [I64, ex9], Nat.zero_le _⟩, Nat.zero_le _⟩
theorem evOk_10 : EvOk ex10 := ⟨⟨by simp [I64, ex10], Nat.zero_le _⟩, Nat.zero_le _⟩
theorem brA : rightB ([ex9, ex8].filter keepB) = true := by
  rw [show [ex9, ex8].filter keepB = [ex9, ex8] from rfl, ← right_sorted (l := [ex8, ex9]) (List.Perm.swap _ _ _) (by simp [SortedL, ex8, ex9])]
  decide
theorem brB : rightB ([ex8, ex10].filter keepB) = false := by
  rw [show [ex8, ex10].filter keepB = [ex8, ex10] from rfl, ← right_sorted (l := [ex8, ex10]) (.refl _) (by simp [SortedL, ex8, ex10])]
  decide
set_option maxHeartbeats 4000000 in
set_option maxRecDepth 100000 in
theorem begun_spec (K : VV → Heap → Prop) (hK : K (.bool true) ⟨1, []⟩) : Gam Try.prog 6 [] ⟨1, []⟩ K := by
  refine gam_enter Try.tok (by kernel_rfl) Try.func6 rfl rfl rfl ?_
  refine c_seq ?_
  (repeat (first | with_reducible refine e_seq ?_ | with_reducible refine c_seq ?_ | with_reducible refine c_block ?_ | with_reducible refine c_skip ?_ | with_reducible refine c_exit ?_ | with_reducible refine c_ret ?_ | with_reducible refine e_seq_ret ?_ | with_reducible refine e_seq_exit ?_ | with_reducible refine e_block_ret ?_ | with_reducible refine e_block_exit ?_ | with_reducible refine e_block ?_ | with_reducible refine e_block_other rfl ?_ | with_reducible refine e_loop_exit ?_ | with_reducible refine e_loop_ret ?_ | ((with_reducible refine c_region (fun K' hK' => ?_)); (conv => whnf); (repeat (first | (refine And.intro rfl ?_; (conv => whnf)) | (refine And.intro (by decide) ?_; (conv => whnf)))); (with_reducible refine hK' _ _ ?_); clear hK' K')))
  (with_reducible refine c_region (fun K' hK' => ?_)); (conv => whnf); (repeat (first | (refine And.intro rfl ?_; (conv => whnf)) | (refine And.intro (by decide) ?_; (conv => whnf))))
  refine New_spec _ ?_
  (conv => whnf); (repeat (first | (refine And.intro rfl ?_; (conv => whnf)) | (refine And.intro (by decide) ?_; (conv => whnf))))
  (with_reducible refine hK' _ _ ?_); clear hK' K'
  (repeat (first | with_reducible refine e_seq ?_ | with_reducible refine c_seq ?_ | with_reducible refine c_block ?_ | with_reducible refine c_skip ?_ | with_reducible refine c_exit ?_ | with_reducible refine c_ret ?_ | with_reducible refine e_seq_ret ?_ | with_reducible refine e_seq_exit ?_ | with_reducible refine e_block_ret ?_ | with_reducible refine e_block_exit ?_ | with_reducible refine e_block ?_ | with_reducible refine e_block_other rfl ?_ | with_reducible refine e_loop_exit ?_ | with_reducible refine e_loop_ret ?_ | ((with_reducible refine c_region (fun K' hK' => ?_)); (conv => whnf); (repeat (first | (refine And.intro rfl ?_; (conv => whnf)) | (refine And.intro (by decide) ?_; (conv => whnf)))); (with_reducible refine hK' _ _ ?_); clear hK' K')))
  refine c_cond_f (by (conv => whnf) <;> rfl) ?_
  (repeat (first | with_reducible refine e_seq ?_ | with_reducible refine c_seq ?_ | with_reducible refine c_block ?_ | with_reducible refine c_skip ?_ | with_reducible refine c_exit ?_ | with_reducible refine c_ret ?_ | with_reducible refine e_seq_ret ?_ | with_reducible refine e_seq_exit ?_ | with_reducible refine e_block_ret ?_ | with_reducible refine e_block_exit ?_ | with_reducible refine e_block ?_ | with_reducible refine e_block_other rfl ?_ | with_reducible refine e_loop_exit ?_ | with_reducible refine e_loop_ret ?_ | ((with_reducible refine c_region (fun K' hK' => ?_)); (conv => whnf); (repeat (first | (refine And.intro rfl ?_; (conv => whnf)) | (refine And.intro (by decide) ?_; (conv => whnf)))); (with_reducible refine hK' _ _ ?_); clear hK' K')))
  (with_reducible refine c_region (fun K' hK' => ?_)); (conv => whnf); (repeat (first | (refine And.intro rfl ?_; (conv => whnf)) | (refine And.intro (by decide) ?_; (conv => whnf))))
  refine Do_call (o := bo1) (es := []) Rep.nil (by simp) (by first | exact List.Mem.head _ | exact .tail _ (.head _) | exact .tail _ (.tail _ (.head _)) | exact .tail _ (.tail _ (.tail _ (.head _))) | exact .tail _ (.tail _ (.tail _ (.tail _ (.head _)))) | exact .tail _ (.tail _ (.tail _ (.tail _ (.tail _ (.head _))))) | exact .tail _ (.tail _ (.tail _ (.tail _ (.tail _ (.tail _ (.head _)))))) | exact .tail _ (.tail _ (.tail _ (.tail _ (.tail _ (.tail _ (.tail _ (.head _))))))) | exact .tail _ (.tail _ (.tail _ (.tail _ (.tail _ (.tail _ (.tail _ (.tail _ (.head _))))))))) (by first | exact List.Mem.head _ | exact .tail _ (.head _) | exact .tail _ (.tail _ (.head _)) | exact .tail _ (.tail _ (.tail _ (.head _))) | exact .tail _ (.tail _ (.tail _ (.tail _ (.head _)))) | exact .tail _ (.tail _ (.tail _ (.tail _ (.tail _ (.head _))))) | exact .tail _ (.tail _ (.tail _ (.tail _ (.tail _ (.tail _ (.head _)))))) | exact .tail _ (.tail _ (.tail _ (.tail _ (.tail _ (.tail _ (.tail _ (.head _))))))) | exact .tail _ (.tail _ (.tail _ (.tail _ (.tail _ (.tail _ (.tail _ (.tail _ (.head _))))))))) fun es1 hr1 => ?_
  replace hr1 : Rep es1 bm1 := hr1
  rw [bd1]
  (conv => whnf); (repeat (first | (refine And.intro rfl ?_; (conv => whnf)) | (refine And.intro (by decide) ?_; (conv => whnf))))
  (with_reducible refine hK' _ _ ?_); clear hK' K'
  (repeat (first | with_reducible refine e_seq ?_ | with_reducible refine c_seq ?_ | with_reducible refine c_block ?_ | with_reducible refine c_skip ?_ | with_reducible refine c_exit ?_ | with_reducible refine c_ret ?_ | with_reducible refine e_seq_ret ?_ | with_reducible refine e_seq_exit ?_ | with_reducible refine e_block_ret ?_ | with_reducible refine e_block_exit ?_ | with_reducible refine e_block ?_ | with_reducible refine e_block_other rfl ?_ | with_reducible refine e_loop_exit ?_ | with_reducible refine e_loop_ret ?_ | ((with_reducible refine c_region (fun K' hK' => ?_)); (conv => whnf); (repeat (first | (refine And.intro rfl ?_; (conv => whnf)) | (refine And.intro (by decide) ?_; (conv => whnf)))); (with_reducible refine hK' _ _ ?_); clear hK' K')))
  (with_reducible refine c_region (fun K' hK' => ?_)); (conv => whnf); (repeat (first | (refine And.intro rfl ?_; (conv => whnf)) | (refine And.intro (by decide) ?_; (conv => whnf))))
  refine Do_call (o := bo2) (es := es1) hr1 (by simp) (by first | exact List.Mem.head _ | exact .tail _ (.head _) | exact .tail _ (.tail _ (.head _)) | exact .tail _ (.tail _ (.tail _ (.head _))) | exact .tail _ (.tail _ (.tail _ (.tail _ (.head _)))) | exact .tail _ (.tail _ (.tail _ (.tail _ (.tail _ (.head _))))) | exact .tail _ (.tail _ (.tail _ (.tail _ (.tail _ (.tail _ (.head _)))))) | exact .tail _ (.tail _ (.tail _ (.tail _ (.tail _ (.tail _ (.tail _ (.head _))))))) | exact .tail _ (.tail _ (.tail _ (.tail _ (.tail _ (.tail _ (.tail _ (.tail _ (.head _))))))))) (by first | exact List.Mem.head _ | exact .tail _ (.head _) | exact .tail _ (.tail _ (.head _)) | exact .tail _ (.tail _ (.tail _ (.head _))) | exact .tail _ (.tail _ (.tail _ (.tail _ (.head _)))) | exact .tail _ (.tail _ (.tail _ (.tail _ (.tail _ (.head _))))) | exact .tail _ (.tail _ (.tail _ (.tail _ (.tail _ (.tail _ (.head _)))))) | exact .tail _ (.tail _ (.tail _ (.tail _ (.tail _ (.tail _ (.tail _ (.head _))))))) | exact .tail _ (.tail _ (.tail _ (.tail _ (.tail _ (.tail _ (.tail _ (.tail _ (.head _))))))))) fun es2 hr2 => ?_
  rw [bd2] at hr2 ⊢
  (conv => whnf); (repeat (first | (refine And.intro rfl ?_; (conv => whnf)) | (refine And.intro (by decide) ?_; (conv => whnf))))
  (with_reducible refine hK' _ _ ?_); clear hK' K'
  (repeat (first | with_reducible refine e_seq ?_ | with_reducible refine c_seq ?_ | with_reducible refine c_block ?_ | with_reducible refine c_skip ?_ | with_reducible refine c_exit ?_ | with_reducible refine c_ret ?_ | with_reducible refine e_seq_ret ?_ | with_reducible refine e_seq_exit ?_ | with_reducible refine e_block_ret ?_ | with_reducible refine e_block_exit ?_ | with_reducible refine e_block ?_ | with_reducible refine e_block_other rfl ?_ | with_reducible refine e_loop_exit ?_ | with_reducible refine e_loop_ret ?_ | ((with_reducible refine c_region (fun K' hK' => ?_)); (conv => whnf); (repeat (first | (refine And.intro rfl ?_; (conv => whnf)) | (refine And.intro (by decide) ?_; (conv => whnf)))); (with_reducible refine hK' _ _ ?_); clear hK' K')))
  (with_reducible refine c_region (fun K' hK' => ?_)); (conv => whnf); (repeat (first | (refine And.intro rfl ?_; (conv => whnf)) | (refine And.intro (by decide) ?_; (conv => whnf))))
  refine Do_call (o := bo3) (es := es2) hr2 (by simp) (by first | exact List.Mem.head _ | exact .tail _ (.head _) | exact .tail _ (.tail _ (.head _)) | exact .tail _ (.tail _ (.tail _ (.head _))) | exact .tail _ (.tail _ (.tail _ (.tail _ (.head _)))) | exact .tail _ (.tail _ (.tail _ (.tail _ (.tail _ (.head _))))) | exact .tail _ (.tail _ (.tail _ (.tail _ (.tail _ (.tail _ (.head _)))))) | exact .tail _ (.tail _ (.tail _ (.tail _ (.tail _ (.tail _ (.tail _ (.head _))))))) | exact .tail _ (.tail _ (.tail _ (.tail _ (.tail _ (.tail _ (.tail _ (.tail _ (.head _))))))))) (by first | exact List.Mem.head _ | exact .tail _ (.head _) | exact .tail _ (.tail _ (.head _)) | exact .tail _ (.tail _ (.tail _ (.head _))) | exact .tail _ (.tail _ (.tail _ (.tail _ (.head _)))) | exact .tail _ (.tail _ (.tail _ (.tail _ (.tail _ (.head _))))) | exact .tail _ (.tail _ (.tail _ (.tail _ (.tail _ (.tail _ (.head _)))))) | exact .tail _ (.tail _ (.tail _ (.tail _ (.tail _ (.tail _ (.tail _ (.head _))))))) | exact .tail _ (.tail _ (.tail _ (.tail _ (.tail _ (.tail _ (.tail _ (.tail _ (.head _))))))))) fun es3 hr3 => ?_
  rw [bd3] at hr3 ⊢
  (conv => whnf); (repeat (first | (refine And.intro rfl ?_; (conv => whnf)) | (refine And.intro (by decide) ?_; (conv => whnf))))
  (with_reducible refine hK' _ _ ?_); clear hK' K'
  (repeat (first | with_reducible refine e_seq ?_ | with_reducible refine c_seq ?_ | with_reducible refine c_block ?_ | with_reducible refine c_skip ?_ | with_reducible refine c_exit ?_ | with_reducible refine c_ret ?_ | with_reducible refine e_seq_ret ?_ | with_reducible refine e_seq_exit ?_ | with_reducible refine e_block_ret ?_ | with_reducible refine e_block_exit ?_ | with_reducible refine e_block ?_ | with_reducible refine e_block_other rfl ?_ | with_reducible refine e_loop_exit ?_ | with_reducible refine e_loop_ret ?_ | ((with_reducible refine c_region (fun K' hK' => ?_)); (conv => whnf); (repeat (first | (refine And.intro rfl ?_; (conv => whnf)) | (refine And.intro (by decide) ?_; (conv => whnf)))); (with_reducible refine hK' _ _ ?_); clear hK' K')))
  (with_reducible refine c_region (fun K' hK' => ?_)); (conv => whnf); (repeat (first | (refine And.intro rfl ?_; (conv => whnf)) | (refine And.intro (by decide) ?_; (conv => whnf))))
  show Gam Try.prog 7 [.sl 9 0 2 2, .sl 10 0 3 3] ⟨11, (10, .row (rb [hh 1, hh 3, hh 2]) 26 96) :: (9, .row (rb [hh 1, hh 2]) 26 64) :: (8, .row (encEv ex10) 41 12) :: (7, .row (encEv ex9) 41 12) :: (6, .row (encEv ex8) 41 12) :: (5, .row (encRes zeroRes) 39 3) :: (2, .row [.map 1] 63 1) :: (1, .map es3) :: (4, .row (encRes ⟨1, true, sV⟩) 39 3) :: (3, .row (encRes ⟨1, false, ⟨#[]⟩⟩) 39 3) :: []⟩ _
  refine Forked_call (a := 9) (b := 10) (la := [hh 1, hh 2]) (lb := [hh 1, hh 3, hh 2]) (by first | exact List.Mem.head _ | exact .tail _ (.head _) | exact .tail _ (.tail _ (.head _)) | exact .tail _ (.tail _ (.tail _ (.head _))) | exact .tail _ (.tail _ (.tail _ (.tail _ (.head _)))) | exact .tail _ (.tail _ (.tail _ (.tail _ (.tail _ (.head _))))) | exact .tail _ (.tail _ (.tail _ (.tail _ (.tail _ (.tail _ (.head _)))))) | exact .tail _ (.tail _ (.tail _ (.tail _ (.tail _ (.tail _ (.tail _ (.head _))))))) | exact .tail _ (.tail _ (.tail _ (.tail _ (.tail _ (.tail _ (.tail _ (.tail _ (.head _))))))))) cov_ro (by first | exact List.Mem.head _ | exact .tail _ (.head _) | exact .tail _ (.tail _ (.head _)) | exact .tail _ (.tail _ (.tail _ (.head _))) | exact .tail _ (.tail _ (.tail _ (.tail _ (.head _)))) | exact .tail _ (.tail _ (.tail _ (.tail _ (.tail _ (.head _))))) | exact .tail _ (.tail _ (.tail _ (.tail _ (.tail _ (.tail _ (.head _)))))) | exact .tail _ (.tail _ (.tail _ (.tail _ (.tail _ (.tail _ (.tail _ (.head _))))))) | exact .tail _ (.tail _ (.tail _ (.tail _ (.tail _ (.tail _ (.tail _ (.tail _ (.head _))))))))) cov_ro (by simp) (by simp) (by simp) (by simp) (by simp) (by simp) ?_
  rw [show cpl [hh 1, hh 2] [hh 1, hh 3, hh 2] = 1 by decide, show ((([hh 1, hh 2].drop 1).any fun h => decide (h ∈ [hh 1, hh 3, hh 2].drop 1)) = true) by decide]
  have key : ∀ (j13 j14 j15 j16 j17 j18 j19 j20 j21 j22 j23 j24 j25 j26 j27 j28 j29 j30 j31 j32 j33 j34 j35 j36 j37 j38 j39 j40 j41 j42 j43 j44 j45 j46 j47 j48 j49 j50 j51 j52 j53 : VV), K' ((.bool false :: .ptr 2 0 :: .ptr 3 0 :: .int .i64 0 :: .ptr 4 0 :: .int .i64 0 :: .ptr 5 0 :: .int .i64 12 :: .ptr 6 0 :: .ptr 7 0 :: .ptr 8 0 :: .int .i64 1 :: .bool true :: j13 :: j14 :: j15 :: j16 :: j17 :: j18 :: j19 :: j20 :: j21 :: j22 :: j23 :: j24 :: j25 :: j26 :: j27 :: j28 :: j29 :: j30 :: j31 :: j32 :: j33 :: j34 :: j35 :: j36 :: j37 :: j38 :: j39 :: j40 :: j41 :: j42 :: j43 :: j44 :: j45 :: j46 :: j47 :: j48 :: j49 :: j50 :: j51 :: j52 :: j53 :: .tup [] :: .tup [] :: .tup [] :: .tup [] :: .tup [] :: .tup [] :: .tup [] :: .tup [] :: .tup [] :: .tup [] :: .tup [] :: .tup [] :: .tup [] :: .tup [] :: .tup [] :: .tup [] :: .tup [] :: .tup [] :: .tup [] :: .tup [] :: .tup [] :: .tup [] :: .tup [] :: .tup [] :: .tup [] :: .tup [] :: .tup [] :: .tup [] :: .tup [] :: .tup [] :: .tup [] :: .tup [] :: .tup [] :: .tup [] :: .tup [] :: .tup [] :: .tup [] :: .tup [] :: .tup [] :: .tup [] :: .tup [] :: .tup [] :: .tup [] :: .tup [] :: .tup [] :: .tup [] :: []))
      ⟨11, (10, .row (rb [hh 1, hh 3, hh 2]) 26 96) :: (9, .row (rb [hh 1, hh 2]) 26 64) :: (8, .row (encEv ex10) 41 12) :: (7, .row (encEv ex9) 41 12) :: (6, .row (encEv ex8) 41 12) :: (5, .row (encRes zeroRes) 39 3) :: (2, .row [.map 1] 63 1) :: (1, .map es3) :: (4, .row (encRes ⟨1, true, sV⟩) 39 3) :: (3, .row (encRes ⟨1, false, ⟨#[]⟩⟩) 39 3) :: []⟩ := by
    intro j13 j14 j15 j16 j17 j18 j19 j20 j21 j22 j23 j24 j25 j26 j27 j28 j29 j30 j31 j32 j33 j34 j35 j36 j37 j38 j39 j40 j41 j42 j43 j44 j45 j46 j47 j48 j49 j50 j51 j52 j53
    (with_reducible refine hK' _ _ ?_); clear hK' K'
    (repeat (first | with_reducible refine e_seq ?_ | with_reducible refine c_seq ?_ | with_reducible refine c_block ?_ | with_reducible refine c_skip ?_ | with_reducible refine c_exit ?_ | with_reducible refine c_ret ?_ | with_reducible refine e_seq_ret ?_ | with_reducible refine e_seq_exit ?_ | with_reducible refine e_block_ret ?_ | with_reducible refine e_block_exit ?_ | with_reducible refine e_block ?_ | with_reducible refine e_block_other rfl ?_ | with_reducible refine e_loop_exit ?_ | with_reducible refine e_loop_ret ?_ | ((with_reducible refine c_region (fun K' hK' => ?_)); (conv => whnf); (repeat (first | (refine And.intro rfl ?_; (conv => whnf)) | (refine And.intro (by decide) ?_; (conv => whnf)))); (with_reducible refine hK' _ _ ?_); clear hK' K')))
    (with_reducible refine c_region (fun K' hK' => ?_)); (conv => whnf); (repeat (first | (refine And.intro rfl ?_; (conv => whnf)) | (refine And.intro (by decide) ?_; (conv => whnf))))
    refine sem_eqAgg Try.tok E39 rfl ?_
    (conv => whnf); (repeat (first | (refine And.intro rfl ?_; (conv => whnf)) | (refine And.intro (by decide) ?_; (conv => whnf))))
    refine ⟨fitVV_res (r := ⟨1, false, ⟨#[]⟩⟩) ⟨by simp [I64], Nat.zero_le _⟩, fitVV_res (r := ⟨1, false, ⟨#[]⟩⟩) ⟨by simp [I64], Nat.zero_le _⟩, fun r hr => ?_⟩
    obtain rfl : r = true := hr.2 rfl
    clear hr
    (conv => whnf); (repeat (first | (refine And.intro rfl ?_; (conv => whnf)) | (refine And.intro (by decide) ?_; (conv => whnf))))
    refine sem_eqAgg Try.tok E39 rfl ?_
    (conv => whnf); (repeat (first | (refine And.intro rfl ?_; (conv => whnf)) | (refine And.intro (by decide) ?_; (conv => whnf))))
    refine ⟨fitVV_res (r := ⟨1, true, sV⟩) ⟨by simp [I64], by decide⟩, fitVV_res (r := ⟨1, true, sV⟩) ⟨by simp [I64], by decide⟩, fun r hr => ?_⟩
    obtain rfl : r = true := hr.2 rfl
    clear hr
    (conv => whnf); (repeat (first | (refine And.intro rfl ?_; (conv => whnf)) | (refine And.intro (by decide) ?_; (conv => whnf))))
    show Gam Try.prog 10 [.sl 11 0 2 2] ⟨12, (11, .row (re [ex9, ex8]) 41 24) :: _⟩ _
    refine Right_call (l := [ex9, ex8]) (by first | exact List.Mem.head _ | exact .tail _ (.head _) | exact .tail _ (.tail _ (.head _)) | exact .tail _ (.tail _ (.tail _ (.head _))) | exact .tail _ (.tail _ (.tail _ (.tail _ (.head _)))) | exact .tail _ (.tail _ (.tail _ (.tail _ (.tail _ (.head _))))) | exact .tail _ (.tail _ (.tail _ (.tail _ (.tail _ (.tail _ (.head _)))))) | exact .tail _ (.tail _ (.tail _ (.tail _ (.tail _ (.tail _ (.tail _ (.head _))))))) | exact .tail _ (.tail _ (.tail _ (.tail _ (.tail _ (.tail _ (.tail _ (.tail _ (.head _))))))))) cov_ro (by simp) (by simp) (by simp) (by simp; exact ⟨evOk_9, evOk_8⟩) ?_
    rw [brA]
    (conv => whnf); (repeat (first | (refine And.intro rfl ?_; (conv => whnf)) | (refine And.intro (by decide) ?_; (conv => whnf))))
    show Gam Try.prog 10 [.sl 12 0 2 2] ⟨13, (12, .row (re [ex8, ex10]) 41 24) :: _⟩ _
    refine Right_call (l := [ex8, ex10]) (by first | exact List.Mem.head _ | exact .tail _ (.head _) | exact .tail _ (.tail _ (.head _)) | exact .tail _ (.tail _ (.tail _ (.head _))) | exact .tail _ (.tail _ (.tail _ (.tail _ (.head _)))) | exact .tail _ (.tail _ (.tail _ (.tail _ (.tail _ (.head _))))) | exact .tail _ (.tail _ (.tail _ (.tail _ (.tail _ (.tail _ (.head _)))))) | exact .tail _ (.tail _ (.tail _ (.tail _ (.tail _ (.tail _ (.tail _ (.head _))))))) | exact .tail _ (.tail _ (.tail _ (.tail _ (.tail _ (.tail _ (.tail _ (.tail _ (.head _))))))))) cov_ro (by simp) (by simp) (by simp) (by simp; exact ⟨evOk_8, evOk_10⟩) ?_
    rw [brB]
    (conv => whnf); (repeat (first | (refine And.intro rfl ?_; (conv => whnf)) | (refine And.intro (by decide) ?_; (conv => whnf))))
    show Gam Try.prog 11 [.sl 13 0 2 2] ⟨14, (13, .row (re [ex8, ex9]) 41 24) :: _⟩ _
    refine Timely_call (l := [ex8, ex9]) (by first | exact List.Mem.head _ | exact .tail _ (.head _) | exact .tail _ (.tail _ (.head _)) | exact .tail _ (.tail _ (.tail _ (.head _))) | exact .tail _ (.tail _ (.tail _ (.tail _ (.head _)))) | exact .tail _ (.tail _ (.tail _ (.tail _ (.tail _ (.head _))))) | exact .tail _ (.tail _ (.tail _ (.tail _ (.tail _ (.tail _ (.head _)))))) | exact .tail _ (.tail _ (.tail _ (.tail _ (.tail _ (.tail _ (.tail _ (.head _))))))) | exact .tail _ (.tail _ (.tail _ (.tail _ (.tail _ (.tail _ (.tail _ (.tail _ (.head _))))))))) cov_ro (by simp) (by simp) (by simp) ?_
    rw [show timelyB ([ex8, ex9].filter keepB) = true by decide]
    (conv => whnf); (repeat (first | (refine And.intro rfl ?_; (conv => whnf)) | (refine And.intro (by decide) ?_; (conv => whnf))))
    (with_reducible refine hK' _ _ ?_); clear hK' K'
    (repeat (first | with_reducible refine e_seq ?_ | with_reducible refine c_seq ?_ | with_reducible refine c_block ?_ | with_reducible refine c_skip ?_ | with_reducible refine c_exit ?_ | with_reducible refine c_ret ?_ | with_reducible refine e_seq_ret ?_ | with_reducible refine e_seq_exit ?_ | with_reducible refine e_block_ret ?_ | with_reducible refine e_block_exit ?_ | with_reducible refine e_block ?_ | with_reducible refine e_block_other rfl ?_ | with_reducible refine e_loop_exit ?_ | with_reducible refine e_loop_ret ?_ | ((with_reducible refine c_region (fun K' hK' => ?_)); (conv => whnf); (repeat (first | (refine And.intro rfl ?_; (conv => whnf)) | (refine And.intro (by decide) ?_; (conv => whnf)))); (with_reducible refine hK' _ _ ?_); clear hK' K')))
    exact ret_id (es := []) (Nat.le_refl _) (by simp) trivial trivial (by simp) hK
  clear hK' hK
  (conv => whnf); (repeat (first | (refine And.intro rfl ?_; (conv => whnf)) | (refine And.intro (by decide) ?_; (conv => whnf))))
  exact key _ _ _ _ _ _ _ _ _ _ _ _ _ _ _ _ _ _ _ _ _ _ _ _ _ _ _ _ _ _ _ _ _ _ _ _ _ _ _ _ _
end Go.Proofs.Ytfphhdcpjoajbaa
