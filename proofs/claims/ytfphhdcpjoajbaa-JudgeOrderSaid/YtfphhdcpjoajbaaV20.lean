/- Nothing, told as a row without cells. -/
import Derived.Test.YtfphhdcpjoajbaaV19
namespace Go.VM
open Go.RowKit
variable {P : Program} {T : List Ty} {N : Nat}
/-- an entry at nil -/
theorem Step.nil0 {σ : Sig} {h : Heap} {w : World} (k : Ok σ h w) (e : TypeId) : Step σ h w σ ⟨h.n, (0, .row [] e 0) :: h.es⟩ w := by
  have hn := k.nil
  refine ⟨fun _ _ => rfl, Nat.le_refl _, ⟨k.nil, k.pos, ?_, ?_, k.lt⟩, rfl, rfl, rfl, Nat.le_refl _, fun _ _ _ => rfl, ?_⟩
  · intro x hx
    rcases List.mem_cons.1 hx with rfl | hx
    · exact ⟨k.pos, trivial, by simp only [OkObj, hn]; exact ⟨trivial, trivial⟩⟩
    · exact k.obj x hx
  · refine List.pairwise_cons.2 ⟨fun x _ d hd => ?_, k.sep⟩
    rw [hn] at hd; cases hd
  · rintro b hb ⟨x, hx, ho, hd⟩
    rcases List.mem_cons.1 hx with rfl | hx
    · rw [hn] at hd; cases hd
    · exact ⟨x, hx, ho, hd⟩
theorem c_loop_nil {c : Code} {f : List VV} {h : Heap} {K : Exit → List VV → Heap → Prop} (e : TypeId) (hk : codeK P T N (.loop c) f ⟨h.n, (0, .row [] e 0) :: h.es⟩ K) : codeK P T N (.loop c) f h K := by
  have hk : SemCode P N (.loop c) f ⟨h.n, (0, .row [] e 0) :: h.es⟩ K := hk
  refine ⟨fun σ a w k hf hd hN => ?_⟩
  have st := Step.nil0 k e
  exact Code.wp_mono (fun x a2 w2 p => PostN.trans (st.toN hN) p) (hk.out σ a w st.ok (hf.step st) hd hN)
theorem gam_nil {g : FuncId} {args : List VV} {h : Heap} {K : VV → Heap → Prop} (e : TypeId) (G : Gam P g args ⟨h.n, (0, .row [] e 0) :: h.es⟩ K) : Gam P g args h K :=
  ⟨G.1, fun σ w us k hs hf => (G.2 σ w us (Step.nil0 k e).ok hs hf).mono fun x w' ⟨σ', h', v, u, e1, e2, e3, e4⟩ => ⟨σ', h', v, u, e1, e2, (Step.nil0 k e).trans e3, e4⟩⟩
theorem getF_bytes {l : List UInt8} {i : Nat} (hi : i < l.length) {K : VV → Prop} (hk : K (.int .u8 l[i].toNat)) {off : Nat} (ho : off = i) : getF (bytesV l) off K :=
  getF_of (v := .int .u8 l[i].toNat) (by rw [ho]; simp [bytesV, hi]) hk
theorem bytesV_ne {l : List UInt8} (h : 0 < l.length) : ∃ hd tl, bytesV l = hd :: tl := by
  cases l with
  | nil => simp at h
  | cons a t => exact ⟨_, _, rfl⟩
theorem bitsK_u8 (op : BinOp) (a b : Int) : ∃ c : UInt8, bitsK op .u8 a b = c.toNat := by
  have h : ∀ x : Int, ∃ c : UInt8, IntKind.u8.wrap x = c.toNat := fun x => by
    have hw : IntKind.u8.wrap x = x % 256 := by
      simp [IntKind.wrap, IntKind.signed, IntKind.bits]
    refine ⟨UInt8.ofNat (x % 256).toNat, ?_⟩
    rw [hw]
    have : (x % 256).toNat < 256 := by omega
    simp [UInt8.toNat_ofNat', Nat.mod_eq_of_lt this]
    omega
  unfold bitsK
  split <;> exact h _
end Go.VM
