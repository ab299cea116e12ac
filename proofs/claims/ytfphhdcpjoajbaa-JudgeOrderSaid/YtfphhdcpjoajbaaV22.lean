/- Arguments opened: a slice whose elements are flat (numbers, strings, bools, structs of these), as a row of virtual values. -/
import Derived.Test.YtfphhdcpjoajbaaV21
import Derived.Deep.Slices
import Derived.ProofKit
import Derived.SizedLaws
namespace Go.VM
open Go.ChangeShapes Go.WideShapes Go.RowKit
inductive CK where
  | int (k : IntKind)
  | str
  | bool
def CK.is : CK → Value → Prop
  | .int k, v => ∃ n, v = .int k n ∧ (Lit.int k n).wf = true
  | .str, v => ∃ s, v = .string s ∧ s.size ≤ maxLen
  | .bool, v => ∃ b, v = .bool b
/-- a flat type's cells -/
def flatFs (P : Program) (F : TypeId → Option (List CK)) : List Field → Nat → Option (List CK)
  | [], _ => some []
  | f :: fs, off =>
    match F f.type with
    | none => none
    | some ks => match decide (f.offset = off) && decide (P.cellsOf f.type = ks.length) with
      | false => none
      | true => match flatFs P F fs (off + ks.length) with
        | none => none
        | some r => some (ks ++ r)
def flatT (P : Program) : Nat → TypeId → Option (List CK)
  | 0, _ => none
  | n + 1, t => match P.underlying t with
    | some (.int k) => some [.int k]
    | some .string => some [.str]
    | some .bool => some [.bool]
    | some (.struct fs) => match flatFs P (flatT P n) fs.toList 0 with
      | none => none
      | some ks => match decide (P.cellsOf t = ks.length) with
        | false => none
        | true => some ks
    | _ => none
def Cks (ks : List CK) (cs : List Value) : Prop := ks.length = cs.length ∧ ∀ (i : Nat) k v, ks[i]? = some k → cs[i]? = some v → k.is v
theorem Cks.one {k : CK} {v : Value} (h : k.is v) : Cks [k] [v] := ⟨rfl, fun i k' v' hk hv => by
  cases i with
  | zero => simp at hk hv; subst hk; subst hv; exact h
  | succ i => simp at hk⟩
section
variable {H : Type} {enc : TypeId × Value → H} {P : Program} {w : World} {base : Nat} {spare : Nat → Bool} {held : Bool}
theorem flatFs_ok {F : TypeId → Option (List CK)} (hF : ∀ t ks fuel cs x, F t = some ks → DataW.trod enc P w base spare held fuel t cs = some x → Cks ks cs) {cs : List Value} :
    ∀ (fs : List Field) (off : Nat) (ks : List CK), flatFs P F fs off = some ks → (∀ f ∈ fs, ∃ fuel x, DataW.trod enc P w base spare held fuel f.type ((cs.drop f.offset).take (P.cellsOf f.type)) = some x) →
      ∀ (i : Nat) k v, ks[i]? = some k → cs[off + i]? = some v → k.is v := by
  intro fs
  induction fs with
  | nil => intro off ks h _ i k v hk; simp [flatFs] at h; subst h; simp at hk
  | cons f fs ih =>
    intro off ks h hx i k v hk hv
    unfold flatFs at h
    split at h
    · cases h
    rename_i ks1 h1
    split at h
    · cases h
    rename_i hb
    split at h
    · cases h
    rename_i r hr
    cases h
    simp only [Bool.and_eq_true, decide_eq_true_eq] at hb
    obtain ⟨fuel, x, ht⟩ := hx f (by simp)
    have hc := hF _ _ _ _ _ h1 ht
    by_cases hi : i < ks1.length
    · rw [List.getElem?_append_left hi] at hk
      refine hc.2 i k v hk ?_
      rw [List.getElem?_take, if_pos (by rw [hb.2]; exact hi), List.getElem?_drop, hb.1]
      exact hv
    · rw [List.getElem?_append_right (by omega)] at hk
      exact ih (off + ks1.length) r hr (fun f' hf' => hx f' (List.mem_cons_of_mem _ hf')) (i - ks1.length) k v hk (by rw [show off + ks1.length + (i - ks1.length) = off + i by omega]; exact hv)
theorem flatT_ok : ∀ (n : Nat) t ks fuel cs x, flatT P n t = some ks → DataW.trod enc P w base spare held fuel t cs = some x → Cks ks cs := by
  intro n
  induction n with
  | zero => intro t ks fuel cs x h; simp [flatT] at h
  | succ n ih =>
    intro t ks fuel cs x h hx
    unfold flatT at h
    split at h
    · rename_i k hu
      cases h
      obtain ⟨a, rfl, _, hw⟩ := DataW.trod_int hu hx
      exact Cks.one ⟨a, rfl, hw⟩
    · rename_i hu
      cases h
      obtain ⟨s, rfl, _, hw⟩ := DataW.trod_string hu hx
      exact Cks.one ⟨s, rfl, hw⟩
    · rename_i hu
      cases h
      obtain ⟨b, rfl, _⟩ := DataW.trod_bool hu hx
      exact Cks.one ⟨b, rfl⟩
    · rename_i fs hu
      split at h
      · cases h
      rename_i ks' hks
      split at h
      · cases h
      rename_i hd
      cases h
      obtain ⟨xs, m, _, _, hl, hxl, hf⟩ := DataW.trod_struct hu hx
      refine ⟨by rw [hl]; exact (of_decide_eq_true hd).symm, fun i k v hk hv => ?_⟩
      refine flatFs_ok (fun t ks fuel cs x => ih t ks fuel cs x) fs.toList 0 ks hks (fun f hfm => ?_) i k v hk (by simpa using hv)
      obtain ⟨j, hj, rfl⟩ := List.mem_iff_getElem.1 hfm
      have hj' : j < xs.length := by rw [hxl]; simpa using hj
      have := hf j (fs.toList[j]) (by simp [Array.getElem?_eq_getElem (show j < fs.size by simpa using hj)])
      rw [List.getElem?_eq_getElem hj'] at this
      exact ⟨m, _, this⟩
    · cases h
end
/-- a slice's cells, as they lie -/
structure RowAt (W : World) (v : Value) (n : Nat) (cs : List VV) (ob : Option Nat) (off cap : Nat) : Prop where
  val : v = .slice (ob.map fun d => ⟨d, off, none⟩) n cap
  nil : ob = none → cs = []
  small : n < 4611686018427387904
  le : n ≤ cap
  lt : ∀ d, ob = some d → d < W.heap.size
  cel : ∀ d, ob = some d → ∀ (j : Nat) (u : VV), cs[j]? = some u → W.cell? ⟨d, off + j, none⟩ = some (den (fun _ => none) u)
theorem open_rows {H : Type} {enc : TypeId × Value → H} {P : Program} {W : World} {base : Nat} {t e : TypeId} {v : Value} {d : DataW H} {p : List MemPlace} {ts : List TypeId} {ds : List (DataW H)} {j : Nat}
    {A : Type} [Inhabited A] {en : A → List VV} {s : Nat} (hs0 : ∀ x, (en x).length = s) (ht : P.underlying t = some (.slice e)) (hc : P.cellsOf e = s) (hsz : 0 < P.bytesOf e)
    (hdec : ∀ fuel cs x, DataW.trod enc P W 0 (fun _ => true) true fuel e cs = some x → ∃ a : A, cs = (en a).map (den fun _ => none))
    (hv : Value.okWide P W .any base t v) (h : DataW.Trod enc P W 0 (fun _ => true) true t v d p)
    (hs : (DataW.weightsEach P ts ds).all (· ≤ reachBytes) = true) (hj : ts[j]? = some t) (hd : ds[j]? = some d) : ∃ (l : List A) (ob : Option Nat) (off cap : Nat), RowAt W v l.length (rowsV en l) ob off cap := by
  obtain ⟨a0, len, cap, rfl⟩ := okWide_slice ht hv
  obtain ⟨fuel, hf⟩ := h
  rcases Deep.open_slice ht hf with ⟨hcs, hx⟩ | ⟨a, len', cap', m, n, D, Pl, hcs, _, hl, hm, hmm, hx, hel⟩
  · simp [Value.cells] at hcs
    obtain ⟨rfl, rfl, rfl⟩ := hcs
    exact ⟨[], none, 0, 0, rfl, fun _ => rfl, by simp, Nat.le_refl _, (by intro d h; cases h), (by intro d h; cases h)⟩
  · simp [Value.cells] at hcs
    obtain ⟨rfl, rfl, rfl⟩ := hcs
    simp only [if_true] at hmm
    replace hmm := hmm.symm
    subst hmm
    simp only [Prod.mk.injEq] at hx
    obtain ⟨rfl, rfl⟩ := hx
    have hbig := sized_slice hs hj hd ht
    rw [List.length_map, List.length_map, List.length_range, List.length_range, show len + (cap - len) = cap by omega] at hbig
    have hcl : cap ≤ 140737488355328 := by
      have h1 := reachBytes_lt
      have h2 : cap * 1 ≤ cap * P.bytesOf e := Nat.mul_le_mul_left cap hsz
      omega
    have hok : Cell.ok P W .any base t (.slice (some a) len cap) := by
      have hv' := hv
      simp only [Value.okWide, ht, Cell.okWide] at hv'
      exact hv'
    simp only [Cell.ok, ht] at hok
    obtain ⟨_, _, hhas⟩ := hok
    obtain ⟨_, hspot, row, cells, hshape, _⟩ := hhas
    obtain ⟨b, off, spot⟩ := a
    dsimp only at hspot
    subst hspot
    have hblt : b < W.heap.size := by
      dsimp only at hshape
      unfold World.shape? at hshape
      cases hb : W.heap[b]? with
      | none => simp [hb] at hshape
      | some o => exact (Array.getElem?_eq_some_iff.1 hb).1
    obtain ⟨f, hfun⟩ := Deep.choose_lt (α := A) (p := fun i a => ∀ k, k < s → W.cell? ⟨b, off + (i * s + k), none⟩ = ((en a).map (den fun _ => none))[k]?) (n := len) (fun i hi => by
      obtain ⟨cs', h1, h2⟩ := hel i (by omega)
      obtain ⟨_, _, h3⟩ := World.cells?_some h1
      obtain ⟨a, ha⟩ := hdec _ _ _ h2
      refine ⟨a, fun k hk => ?_⟩
      have := h3 k (by omega)
      rw [Deep.add_add, Addr.add_mid, ha, hc] at this
      exact this)
    refine ⟨(List.range len).map f, some b, off, cap, ?_, (by intro h; cases h), ?_, ?_, ?_, ?_⟩
    · simp
    · simp; omega
    · simpa using hl
    · intro d hd; cases hd; exact hblt
    · intro d hd j u hu
      cases hd
      have hjl : j < len * s := by
        have := (List.getElem?_eq_some_iff.1 hu).1
        rw [rowsV_length hs0] at this
        simpa using this
      have hs1 : 0 < s := Nat.pos_of_ne_zero fun h0 => by rw [h0] at hjl; simp at hjl
      have hi : j / s < len := (Nat.div_lt_iff_lt_mul hs1).2 hjl
      have hk : j % s < s := Nat.mod_lt _ hs1
      have hjs : j / s * s + j % s = j := by rw [Nat.mul_comm]; exact Nat.div_add_mod j s
      have := hfun (j / s) hi (j % s) hk
      rw [hjs] at this
      rw [this, List.getElem?_map]
      have hu2 : (rowsV en ((List.range len).map f))[j / s * s + j % s]? = (en (f (j / s)))[j % s]? := by
        have e1 : ((List.range len).map f)[j / s]? = some (f (j / s)) := by simp [hi]
        obtain ⟨hlt, e2⟩ := List.getElem?_eq_some_iff.1 e1
        have hsplit := rowsV_split (enc := en) (l := (List.range len).map f) (i := j / s) hlt
        rw [hsplit, List.getElem?_append_right (by rw [rowsV_length hs0, List.length_take, Nat.min_eq_left (Nat.le_of_lt hlt)]; omega), rowsV_length hs0, List.length_take, Nat.min_eq_left (Nat.le_of_lt hlt),
          show j / s * s + j % s - j / s * s = j % s by omega, List.getElem?_append_left (by rw [hs0]; exact hk), e2]
      rw [hjs, hu] at hu2
      rw [← hu2]; rfl
end Go.VM
