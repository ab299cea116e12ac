/- Helps for walks: states told again by the same numbers, results, wraps. -/
import Derived.Test.YtfphhdcpjoajbaaV15
import Derived.IntWalk
namespace Go.VM
open Go.RowKit
variable {P : Program} {T : List Ty} {N : Nat}

mutual
theorem ren_id_sc {θ : Nat → Nat} {n : Nat} (h : ∀ i, i < n → θ i = i) : ∀ v, sc n v → ren θ v = v
  | .int _ _, _ | .bool _, _ | .str _, _ | .nilf, _ | .nili, _ => by simp [ren]
  | .ptr b _, k => by simp [sc] at k; simp [ren, h b k]
  | .sl b _ _ _, k => by simp [sc] at k; simp [ren, h b k]
  | .map b, k => by simp [sc] at k; simp [ren, h b k]
  | .fn _ cap, k => by simp only [sc] at k; simp [ren, ren_id_scL h cap k]
  | .agg _, k => by simp [sc] at k
  | .tup _, k => by simp [sc] at k
  | .any, k => by simp [sc] at k
theorem ren_id_scL {θ : Nat → Nat} {n : Nat} (h : ∀ i, i < n → θ i = i) : ∀ l, scL n l → renL θ l = l
  | [], _ => by simp [renL]
  | v :: l, k => by simp only [scL] at k; simp [renL, ren_id_sc h v k.1, ren_id_scL h l k.2]
end
theorem ren_id1 {θ : Nat → Nat} {n : Nat} (h : ∀ i, i < n → θ i = i) (v : VV) (k : wf1 n v) : ren θ v = v := by
  cases v <;> simp only [wf1] at k <;> first | exact ren_id_sc h _ k | simp [ren, ren_id_scL h _ k]
theorem ren_id {θ : Nat → Nat} {n : Nat} (h : ∀ i, i < n → θ i = i) (v : VV) (k : wf n v) : ren θ v = v := by
  cases v <;> simp only [wf] at k <;> try exact ren_id1 h _ k
  rename_i vs
  simp only [ren, renL_eq]
  congr 1
  conv => rhs; rw [← List.map_id vs]
  exact List.map_congr_left fun v hv => ren_id1 h v (k v hv)
theorem VObj.ren_id {θ : Nat → Nat} {n : Nat} (h : ∀ i, i < n → θ i = i) (o : VObj) (k : o.wf n) : o.ren θ = o := by
  cases o with
  | row cs t m => simp only [VObj.ren]; rw [ren_id_scL h cs k]
  | ro off cs => simp only [VObj.ren]; rw [ren_id_scL h cs k]
  | map es =>
    simp only [VObj.ren]
    congr 1
    conv => rhs; rw [← List.map_id es]
    exact List.map_congr_left fun e he => by rw [ren_id1 h _ (k e he).1, ren_id1 h _ (k e he).2]; rfl
/-- numbers from N on, in order -/
def upTo (N : Nat) : Nat → List Nat
  | 0 => []
  | k + 1 => upTo N k ++ [N + k]
theorem upTo_len (N : Nat) : ∀ k, (upTo N k).length = k
  | 0 => rfl
  | k + 1 => by simp [upTo, upTo_len N k]
theorem upTo_at (N : Nat) : ∀ k i, i < k → (upTo N k)[i]? = some (N + i)
  | 0, i, h => by omega
  | k + 1, i, h => by
    rw [upTo]
    by_cases hi : i < k
    · rw [List.getElem?_append_left (by rw [upTo_len]; exact hi), upTo_at N k i hi]
    · have : i = k := by omega
      subst this
      rw [List.getElem?_append_right (by rw [upTo_len]; exact Nat.le_refl _), upTo_len]; simp
theorem thet_upTo (N k i : Nat) (h : i < N + k) : thet N (upTo N k) i = i := by
  unfold thet
  split
  · rfl
  · rw [List.getD_eq_getElem?_getD, upTo_at N k _ (by omega)]; simp; omega
theorem upTo_lt {N k x : Nat} (h : x ∈ upTo N k) : x < N + k := by
  obtain ⟨i, hi, rfl⟩ := List.mem_iff_getElem.1 h
  rw [upTo_len] at hi
  have := upTo_at N k i hi
  rw [List.getElem?_eq_getElem (by rw [upTo_len]; exact hi)] at this
  simp at this; omega

def FrS (n : Nat) : List VV → List VV → Prop
  | [], [] => True
  | _ :: f, .any :: g => FrS n f g
  | v :: f, u :: g => (v = u ∧ wf n u) ∧ FrS n f g
  | _, _ => False
def EsS (n : Nat) (es : List (Nat × VObj)) : List (Nat × VObj) → Prop
  | [] => True
  | e :: r => (e.1 < n ∧ e.2.wf n ∧ ∃ o, (e.1, o) ∈ es ∧ Cov o e.2) ∧ EsS n es r
theorem FrS.fr {θ : Nat → Nat} {n : Nat} (h : ∀ i, i < n → θ i = i) : ∀ {f g : List VV}, FrS n f g → FrR θ n f g
  | [], [], _ => trivial
  | [], _ :: _, k => by simp [FrS] at k
  | _ :: _, [], k => by simp [FrS] at k
  | v :: f, u :: g, k => by
    cases u <;> simp only [FrS] at k <;> simp only [FrR] <;> first
      | exact FrS.fr h k
      | exact ⟨⟨by rw [ren_id h _ k.1.2]; exact k.1.1, k.1.2⟩, FrS.fr h k.2⟩
theorem EsS.es {θ : Nat → Nat} {n : Nat} (h : ∀ i, i < n → θ i = i) {es : List (Nat × VObj)} : ∀ {r : List (Nat × VObj)}, EsS n es r → EsR θ n es r
  | [], _ => trivial
  | e :: r, k => by
    obtain ⟨⟨h1, h2, o, h3, h4⟩, k2⟩ := k
    exact ⟨⟨h1, h2, o, by rw [h _ h1]; exact h3, by rw [VObj.ren_id h _ h2]; exact h4⟩, k2.es h⟩
theorem EsS.lt {n : Nat} {es : List (Nat × VObj)} : ∀ {r : List (Nat × VObj)}, EsS n es r → ∀ e ∈ r, e.1 < n
  | [], _, _, h => by simp at h
  | e :: r, k, e', h => by
    rcases List.mem_cons.1 h with rfl | h
    · exact k.1.1
    · exact EsS.lt k.2 e' h
theorem apart_of {θ : Nat → Nat} {n : Nat} (h : ∀ i, i < n → θ i = i) {es : List (Nat × VObj)} (hl : ∀ e ∈ es, e.1 < n) (hd : (es.map Prod.fst).Nodup) : Apart θ es := by
  unfold Apart
  rw [List.Nodup, List.pairwise_map] at hd
  refine hd.imp_of_mem fun {a b} ha hb hab heq => ?_
  rw [h _ (hl a ha), h _ (hl b hb)] at heq
  exact absurd heq hab
/-- the same numbers -/
theorem StR_id {f g : List VV} {h : Heap} {n : Nat} {es : List (Nat × VObj)} (hN : N ≤ n) (hn : n ≤ h.n) (hf : FrS n f g) (he : EsS n h.es es) (hd : (es.map Prod.fst).Nodup) : StR N f h (g, ⟨n, es⟩) := by
  obtain ⟨k, rfl⟩ : ∃ k, n = N + k := ⟨n - N, by omega⟩
  have hid : ∀ i, i < N + k → thet N (upTo N k) i = i := fun i hi => thet_upTo N k i hi
  exact ⟨upTo N k, by rw [upTo_len], fun x hx => Nat.lt_of_lt_of_le (upTo_lt hx) hn, hf.fr hid, he.es hid, apart_of hid he.lt hd⟩
theorem ret_id {v : VV} {h : Heap} {K : VV → Heap → Prop} {n : Nat} {es : List (Nat × VObj)} (hN : N ≤ n) (hn : n ≤ h.n) (hw : wf n v) (he : EsS n h.es es) (hd : (es.map Prod.fst).Nodup) (hk : K v ⟨n, es⟩) : RetK N v h K := by
  obtain ⟨k, rfl⟩ : ∃ k, n = N + k := ⟨n - N, by omega⟩
  have hid : ∀ i, i < N + k → thet N (upTo N k) i = i := fun i hi => thet_upTo N k i hi
  exact ⟨upTo N k, v, ⟨N + k, es⟩, by rw [upTo_len], fun x hx => Nat.lt_of_lt_of_le (upTo_lt hx) hn, (ren_id hid v hw).symm, hw, he.es hid, apart_of hid he.lt hd, hk⟩
/-- a value of which nothing lies in memory -/
theorem ret_val {v : VV} {h : Heap} {K : VV → Heap → Prop} (hn : N ≤ h.n) (hw : wf N v) (hk : K v ⟨N, []⟩) : RetK N v h K :=
  ret_id (n := N) (es := []) (Nat.le_refl _) hn hw trivial (by simp) hk

theorem c_cond_t {f : List VV} {h : Heap} {K : Exit → List VV → Heap → Prop} {a b : Code} {c : Operand} (hc : evK f c fun v => v = .bool true) (k : codeK P T N a f h K) : codeK P T N (.cond c a b) f h K := c_cond hc (fun _ => k) (fun h => by cases h)
theorem c_cond_f {f : List VV} {h : Heap} {K : Exit → List VV → Heap → Prop} {a b : Code} {c : Operand} (hc : evK f c fun v => v = .bool false) (k : codeK P T N b f h K) : codeK P T N (.cond c a b) f h K := c_cond hc (fun h => by cases h) (fun _ => k)

/-! wraps -/
theorem wrap_i64 {a : Int} (h : -9223372036854775808 ≤ a ∧ a ≤ 9223372036854775807) : IntKind.i64.wrap a = a := by rw [IntKind.wrap_i64]; omega
theorem cov_ro {cs : List VV} {t : TypeId} {m : Nat} : Cov (.row cs t m) (.ro 0 cs) := by
  refine ⟨fun σ w b h => ?_, fun h => by simp [VObj.owned] at h⟩
  simp only [OkObj] at h ⊢
  split
  · rename_i d hd
    intro j v hj
    rw [denL_eq, List.getElem?_map] at hj
    cases hx : cs[j]? with
    | none => rw [hx] at hj; simp at hj
    | some u =>
      rw [hx] at hj
      simp at hj
      have h' : OkObj σ w b (.row cs t m) := by simp only [OkObj]; rw [hd]; rw [hd] at h; exact h
      obtain ⟨d', hd', hc⟩ := h'.at (i := j) (v := u) (by simpa [VObj.at] using hx)
      rw [hd] at hd'; cases hd'
      rw [Nat.zero_add, hc, hj]
  · rename_i hd
    rw [hd] at h
    exact h.1
end Go.VM
