/- clear, of a slice. -/
import Derived.Test.YtfphhdcpjoajbaaV17
namespace Go.VM
open Go.RowKit
variable {P : Program} {T : List Ty} {o : Oper} {f : List VV} {h : Heap} {K : VV → Heap → Prop}
def clearK (h : Heap) (b off n : Nat) (zs : List VV) (K : Heap → Prop) : Prop :=
  (n = 0 → K h) ∧ (n ≠ 0 → zs ≠ [] ∧ findK h.es b fun o => liveK o (writeK h b off (repL zs n) K))
theorem sem_clear {x : Operand} {t : TypeId} (hT : TOk P T) (ho : o.op = .call { callee := .builtin .clear, args := #[x], argTypes := #[t] }) (hk : evK f x fun v => match v with
    | .sl b off n _ => elemK T t fun kd z => (match kd with
      | .slice _ => clearK h b off n z.zero fun h => K (.tup []) h
      | _ => False)
    | _ => False) : SemOp P o f h K := by
  refine SemOp.value fun σ a w k hf => ?_
  obtain ⟨v, hv, hk1⟩ := evK_ok k hf hk
  clear hk
  refine ⟨Builtin.clear_ #[t] o.type #[a.eval x], ?_, ?_⟩
  · rw [exec_builtin1 ho]; simp [invoke, builtin]
  · split at hk1
    · rename_i b off n c
      obtain ⟨hw, he⟩ := hv.of rfl
      simp only [den] at he; rw [he]
      obtain ⟨kd, z, hk, hkd⟩ := elemK_ok hT hk1
      clear hk1
      split at hk
      · rename_i e0
        rcases hkd with ⟨e, ti, dd, zv, hke, hu, ty⟩ | ⟨n', e, ti, dd, zv, hke, hu, ty⟩
        · cases hke
          obtain ⟨hz, hnz⟩ := hk
          have unit : FitV σ h.n (.tup []) (.tuple #[]) := .inr ⟨by simp [wf], by simp [den, denL]⟩
          by_cases h0 : n = 0
          · subst h0
            refine ⟨σ, h, w, .tup [], .tuple #[], ?_, unit, Step.refl k, hz rfl⟩
            unfold Builtin.clear_
            cases σ b <;> simp [run_underlying hu]
          · obtain ⟨hne, hk⟩ := hnz h0
            obtain ⟨ob, hob, hk⟩ := findK_ok hk
            obtain ⟨hb, hk⟩ := liveK_ok (k.obj _ hob).2.2 hk
            obtain ⟨d, h', w', hd, hr, hs, hk⟩ := writeK_ok (P := P) k (repL_sc (ty.sc _ k.pos) n) hk hb
            refine ⟨σ, h', w', .tup [], .tuple #[], ?_, ?_, hs, hk⟩
            · have hzc := ty.den σ k.nil
              have hzs : zv.cells.size = z.zero.length := by rw [← Array.length_toList, ← hzc, denL_eq, List.length_map]
              have hc0 : (Builtin.zeroCells zv.cells n).toList = denL σ (repL z.zero n) := by
                rw [repL_den σ z.zero hne n]
                unfold Builtin.zeroCells
                rw [Array.toList_map, Array.toList_range, hzs]
                refine List.map_congr_left fun i hi => ?_
                rw [hzc]
                simp [getElem!_def]
              unfold Builtin.clear_
              have hzv : ∀ w : World, (zeroValue e0 : Sem Value).run P w = .ok zv w := fun w => run_zeroValue ty w
              rw [← hc0] at hr
              obtain ⟨n, rfl⟩ : ∃ m, n = m + 1 := ⟨n - 1, by omega⟩
              simp [run_underlying hu, hd, hzv, hr]
            · exact .inr ⟨by simp [wf], by simp [den, denL]⟩
        · cases hke
      · exact hk.elim
    · exact hk1.elim
theorem Cov.trans {a b c : VObj} (h : Cov a b) (k : Cov b c) : Cov a c := ⟨fun σ w i o => k.1 σ w i (h.1 σ w i o), fun o => h.2 (k.2 o)⟩
theorem cov_pre {o : Nat} {cs ds : List VV} : Cov (.ro o (cs ++ ds)) (.ro o cs) := by
  refine ⟨fun σ w b h => ?_, fun h => by simp [VObj.owned] at h⟩
  simp only [OkObj] at h ⊢
  split
  · rename_i d hd
    rw [hd] at h
    intro j v hj
    refine h j v ?_
    rw [denL_eq, List.getElem?_map] at hj ⊢
    cases hx : cs[j]? with
    | none => rw [hx] at hj; simp at hj
    | some u =>
      rw [List.getElem?_append_left (List.getElem?_eq_some_iff.1 hx).1, hx]
      rw [hx] at hj; exact hj
  · rename_i hd
    rw [hd] at h
    simp only [List.append_eq_nil_iff] at h
    exact h.1
theorem cov_row_pre {cs ds : List VV} {t : TypeId} {m : Nat} : Cov (.row (cs ++ ds) t m) (.ro 0 cs) := cov_ro.trans cov_pre
theorem writeK_of {b off : Nat} {us : List VV} {K : Heap → Prop} (hne : us ≠ []) (hk : modK h.es b (putO off us) fun es => K ⟨h.n, es⟩) : writeK h b off us K := by
  cases us with
  | nil => exact absurd rfl hne
  | cons u us => exact hk
theorem takeC_full {cs : List VV} {o n : Nat} {K : List VV → Prop} (ho : o = 0) (h : cs.length = n) (k : K cs) : takeC cs o n K := by subst ho; exact takeC_all h k
theorem repL_rows {A : Type} {enc : A → List VV} {x : A} {zs : List VV} (hz : zs = enc x) : ∀ n, repL zs n = rowsV enc (List.replicate n x)
  | 0 => rfl
  | n + 1 => by rw [repL, List.replicate_succ, rowsV_cons, hz, ← hz, repL_rows hz n]
theorem putC_block {A : Type} {enc : A → List VV} {s : Nat} (he : ∀ x, (enc x).length = s) {k r z : List A} (hl : r.length = z.length) {off : Nat} (ho : off = k.length * s) {K : List VV → Prop} (hk : K (rowsV enc (k ++ z))) : putC (rowsV enc (k ++ r)) off (rowsV enc z) K := by
  subst ho
  have h1 := rowsV_length he k
  have h2 := rowsV_length he r
  have h3 := rowsV_length he z
  rw [rowsV_append] at hk ⊢
  refine putC_of (by rw [List.length_append, h1, h2, h3, hl]; exact Nat.le_refl _) ?_
  rw [← h1, List.take_left, List.drop_append, List.drop_eq_nil_of_le (by omega), List.nil_append]
  rw [show (rowsV enc k).length + (rowsV enc z).length - (rowsV enc k).length = (rowsV enc r).length by rw [h2, h3, hl]; omega, List.drop_length, List.append_nil]
  exact hk
end Go.VM
