import Derived.Test.YtfphhdcpjoajbaaT
namespace Go.Proofs.Ytfphhdcpjoajbaa
open Go.VM Go.RowKit
structure Op4 where
  kind : Int
  key : ByteArray
  val : ByteArray
  ver : Int
structure Res3 where
  ver : Int
  has : Bool
  val : ByteArray
structure Ev where
  client : Int
  op : Op4
  start : Int
  fin : Int
  err : Int
  res : Res3
  place : Int
def encOp (o : Op4) : List VV := [.int .i64 o.kind, .str o.key, .str o.val, .int .i64 o.ver]
def encRes (r : Res3) : List VV := [.int .i64 r.ver, .bool r.has, .str r.val]
def encEv (e : Ev) : List VV := [.int .i64 e.client, .int .i64 e.op.kind, .str e.op.key, .str e.op.val, .int .i64 e.op.ver, .int .i64 e.start, .int .i64 e.fin, .int .i64 e.err, .int .i64 e.res.ver, .bool e.res.has, .str e.res.val, .int .i64 e.place]
theorem encEv_len (e : Ev) : (encEv e).length = 12 := rfl
def dropB (e : Ev) : Bool := decide (e.fin < 0) || (e.err != 0 && e.err != 12) || decide (e.place < 1)

set_option maxRecDepth 100000 in
theorem told1_spec (e : Ev) (K : VV → Heap → Prop) (hK : K (.bool (dropB e)) ⟨1, []⟩) : Gam Try.prog 28 [.agg (encEv e)] ⟨1, []⟩ K := by
  unfold dropB at hK
  refine gam_enter Try.tok (by kernel_rfl) Try.func28 rfl rfl rfl ?_
  refine c_seq ?_
  refine c_region fun K1 hK1 => ?_
  conv => whnf
  refine hK1 _ _ ?_
  refine e_seq ?_
  refine c_seq ?_
  refine c_region fun K2 hK2 => ?_
  conv => whnf
  cases h1 : decide (e.fin < 0) <;> rw [h1] at hK <;> conv => whnf
  · cases h2 : e.err != 0 <;> rw [h2] at hK <;> conv => whnf
    · cases h3 : decide (e.place < 1) <;> rw [h3] at hK <;> conv => whnf
      all_goals
        refine hK2 _ _ ?_
        refine e_seq ?_
        refine c_ret ?_
        exact ret_plain rfl trivial hK
    · cases h3 : e.err != 12 <;> rw [h3] at hK <;> conv => whnf
      · cases h4 : decide (e.place < 1) <;> rw [h4] at hK <;> conv => whnf
        all_goals
          refine hK2 _ _ ?_
          refine e_seq ?_
          refine c_ret ?_
          exact ret_plain rfl trivial hK
      · refine hK2 _ _ ?_
        refine e_seq ?_
        refine c_ret ?_
        exact ret_plain rfl trivial hK
  · refine hK2 _ _ ?_
    refine e_seq ?_
    refine c_ret ?_
    exact ret_plain rfl trivial hK
end Go.Proofs.Ytfphhdcpjoajbaa
