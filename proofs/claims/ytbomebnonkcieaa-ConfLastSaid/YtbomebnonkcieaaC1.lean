import Derived.Test.YtbomebnonkcieaaProg
import Derived.Test.YtbomebnonkcieaaM
import Derived.BigQuiet
import Derived.Deep.QuietTactic
import Derived.Lib.Hide
namespace Go.Proofs.Ytbomebnonkcieaa
open Go.RowKit Go.Mem

/-- the place of x in l, or -1 -/
def idx (x : Int) : List Int → Int → Int
  | [], _ => -1
  | y :: l, i => if x = y then i else idx x l (i+1)

theorem idx_drop_hit {x : Int} {l : List Int} {k : Nat} (h : l[k]? = some x) : idx x (l.drop k) k = k := by
  obtain ⟨hk, h⟩ := List.getElem?_eq_some_iff.1 h
  rw [List.drop_eq_getElem_cons hk]
  simp only [idx]
  rw [if_pos h.symm]
theorem idx_drop_miss {x y : Int} {l : List Int} {k : Nat} (h : l[k]? = some y) (hne : ¬ x = y) : idx x (l.drop k) k = idx x (l.drop (k+1)) (k+1 : Nat) := by
  obtain ⟨hk, h⟩ := List.getElem?_eq_some_iff.1 h
  rw [List.drop_eq_getElem_cons hk]
  simp only [idx]
  rw [if_neg (by rw [h]; exact hne)]
  simp
theorem idx_drop_end {x : Int} {l : List Int} {k : Nat} (hk : l.length ≤ k) : idx x (l.drop k) k = -1 := by
  rw [List.drop_of_length_le hk]; rfl
theorem idx_lt {x : Int} : ∀ (l : List Int) (i : Int), 0 ≤ i → -1 ≤ idx x l i ∧ idx x l i < i + l.length := by
  intro l
  induction l with
  | nil => intro i _; simp only [idx]; simp; omega
  | cons y l ih =>
    intro i hi
    simp only [idx]
    split
    · simp; omega
    · have := ih (i+1) (by omega)
      simp; omega

set_option maxHeartbeats 400000 in
theorem index_any (v : Value) (l : List Int) (x : Int) (w : World) (h : SlI w v l) :
    Calls Try.prog 29 #[v, .int .i64 x] w fun e w' => e = .returned (.int .i64 (idx x l 0)) ∧ w = w' := by
  obtain ⟨ao, cap, rfl, hc, hm, -, hx⟩ := h.open
  clear h
  go_enter Try.func29, Try.ntmps29
  go_wp2
  go_loop [8] (fun i => ∃ k : Nat, k ≤ l.length ∧ i = .int .i64 k ∧ Hid (idx x l 0 = idx x (l.drop k) k)) (fun i => l.length - (intOf i).toNat)
  case atStart => exact ⟨0, Nat.zero_le _, rfl, rfl⟩
  case round =>
    obtain ⟨k, hk, rfl, hi⟩ := hrel
    by_cases hlt : k < l.length
    · obtain ⟨b, o, y, rfl, hck, hy⟩ := hx.out k hlt
      by_cases he : x = y
      · subst he
        go_wp2
        go_ret
        exact ⟨by rw [hi.out, idx_drop_hit hy.out]; rfl, rfl⟩
      · have hb : (x == y) = false := by simpa using he
        go_wp2
        go_round
        case rel => exact ⟨k + 1, by omega, by go_num, hi.out.trans (idx_drop_miss hy.out he)⟩
        case measure => simp [intOf]; omega
    · go_wp2
      go_ret
      exact ⟨by rw [hi.out, idx_drop_end (by omega)]; rfl, rfl⟩

theorem idx_mem {x : Int} : ∀ (l : List Int) (i : Int), 0 ≤ i → (0 ≤ idx x l i ↔ x ∈ l) := by
  intro l
  induction l with
  | nil => intro i _; simp [idx]
  | cons y l ih =>
    intro i hi
    simp only [idx, List.mem_cons]
    split
    · rename_i h; simp [h]; omega
    · rename_i h; rw [ih (i+1) (by omega)]; simp [h]

/-- is x in l? -/
def hasI (l : List Int) (x : Int) : Bool := l.contains x
theorem contains_any (v : Value) (l : List Int) (x : Int) (w : World) (h : SlI w v l) :
    Calls Try.prog 25 #[v, .int .i64 x] w fun e w' => e = .returned (.bool (hasI l x)) ∧ w = w' := by
  go_enter Try.func25, Try.ntmps25
  go_wp2_with (go_at_call 29; refine (index_any v l x w h).mono ?_; rintro e w' ⟨rfl, rfl⟩)
  go_ret
  refine ⟨?_, rfl⟩
  have := idx_mem (x := x) l 0 (by omega)
  congr 2
  unfold hasI
  by_cases hx : x ∈ l <;> simp_all

def mayC (n : Int) (l : List Int) : Bool := decide (1 ≤ n ∧ n ≤ 1099511627776 ∧ 1 ≤ l.length ∧ l.length ≤ 5 ∧ (∀ x ∈ l, 1 ≤ x ∧ x ≤ 5) ∧ l.Nodup)


theorem mayC_false {n : Int} {l : List Int} (h : ¬ (1 ≤ n ∧ n ≤ 1099511627776 ∧ 1 ≤ l.length ∧ l.length ≤ 5 ∧ (∀ x ∈ l, 1 ≤ x ∧ x ≤ 5) ∧ l.Nodup)) : false = mayC n l := by
  unfold mayC; exact (decide_eq_false h).symm
theorem mayC_true {n : Int} {l : List Int} (h : (1 ≤ n ∧ n ≤ 1099511627776 ∧ 1 ≤ l.length ∧ l.length ≤ 5 ∧ (∀ x ∈ l, 1 ≤ x ∧ x ≤ 5) ∧ l.Nodup)) : true = mayC n l := by
  unfold mayC; exact (decide_eq_true h).symm
theorem ret_bool {a b : Bool} (h : a = b) : Ending.returned (.bool a) = .returned (.bool b) := by rw [h]
theorem take_succ_of {l : List Int} {k : Nat} {y : Int} (h : l[k]? = some y) : l.take (k + 1) = l.take k ++ [y] := by
  obtain ⟨hk, h⟩ := List.getElem?_eq_some_iff.1 h
  rw [List.take_succ_eq_append_getElem hk, h]
theorem mem_of_get {l : List Int} {k : Nat} {y : Int} (h : l[k]? = some y) : y ∈ l := List.mem_of_getElem? h
theorem nodup_bad {l : List Int} {k : Nat} {y : Int} (h : l[k]? = some y) (hm : y ∈ l.take k) : ¬ l.Nodup := by
  intro hn
  have := hn.sublist (List.take_sublist (k+1) l)
  rw [take_succ_of h, List.nodup_append] at this
  exact this.2.2 y hm y (by simp) rfl
def GoodTo (l : List Int) (k : Nat) : Prop := (∀ x ∈ l.take k, 1 ≤ x ∧ x ≤ 5) ∧ (l.take k).Nodup
theorem GoodTo.step {l : List Int} {k : Nat} {y : Int} (h : GoodTo l k) (hy : l[k]? = some y) (r : 1 ≤ y ∧ y ≤ 5) (hc : hasI (l.take k) y = false) : GoodTo l (k+1) := by
  unfold GoodTo at *
  rw [take_succ_of hy]
  refine ⟨fun x hx => ?_, ?_⟩
  · rcases List.mem_append.1 hx with hx | hx
    · exact h.1 x hx
    · simp at hx; subst hx; exact r
  · rw [List.nodup_append]
    refine ⟨h.2, by simp, fun a ha b hb => ?_⟩
    simp at hb; subst hb
    rintro rfl
    simp [hasI, ha] at hc

theorem contains_is (v : Value) (l : List Int) (x : Int) (w : World) (h : SlI w v l) (b : Bool) (hb : hasI l x = b) :
    Calls Try.prog 25 #[v, .int .i64 x] w fun e w' => e = .returned (.bool b) ∧ w = w' := by
  subst hb; exact contains_any v l x w h

set_option maxHeartbeats 800000 in
theorem may_any (n : Int) (v : Value) (l : List Int) (w : World) (h : SlI w v l) :
    Calls Try.prog 8 #[.agg #[.int .i64 n, v]] w fun e w' => e = .returned (.bool (mayC n l)) ∧ New w w' := by
  obtain ⟨ao, cap, rfl, hc, hm, hao, hx⟩ := h.open
  have HS := Lib.hid h
  clear h
  by_cases c : 1 ≤ n ∧ n ≤ 1099511627776 ∧ 1 ≤ l.length ∧ l.length ≤ 5
  · obtain ⟨c1, c2, c3, c4⟩ := c
    go_enter Try.func8, Try.ntmps8
    go_wp2_with fail
    go_loop [3, 4, 28] (fun _ _ i => ∃ k : Nat, k ≤ l.length ∧ i = .int .i64 k ∧ GoodTo l k) (fun _ _ i => l.length - (intOf i).toNat)
    case atStart => exact ⟨0, Nat.zero_le _, rfl, by simp [GoodTo]⟩
    case round =>
      obtain ⟨k, hk, rfl, hi⟩ := hrel
      by_cases hlt : k < l.length
      · obtain ⟨b, o, y, rfl, hck, hy⟩ := hx.out k hlt
        have hblk := World.block_lt_of_cell? w _ hck
        by_cases r : 1 ≤ y ∧ y ≤ 5
        · have HSL := Lib.hid ((HS.out.alloc (.cells #[.int .i64 n, .slice (some ⟨b, o, none⟩) l.length cap] 25)).take hk)
          cases hc : hasI (l.take k) y
          · have HC := Lib.hid hc
            clear hc
            go_wp2_with (go_at_call 25; refine (contains_is _ _ y _ HSL.out _ HC.out).mono ?_; rintro e w' ⟨rfl, rfl⟩)
            go_round
            case rel => exact ⟨k + 1, by omega, by go_num, hi.step hy.out r HC.out⟩
            case measure => simp [intOf]; omega
          · have HC := Lib.hid hc
            clear hc
            go_wp2_with (go_at_call 25; refine (contains_is _ _ y _ HSL.out _ HC.out).mono ?_; rintro e w' ⟨rfl, rfl⟩)
            go_ret
            exact ⟨ret_bool (mayC_false (fun hh => nodup_bad hy.out (by simpa [hasI] using HC.out) hh.2.2.2.2.2)), (Below.refl _ _).alloc (Nat.le_refl _) _⟩
        · have hf : false = mayC n l := mayC_false (fun hh => r (hh.2.2.2.2.1 y (mem_of_get hy.out)))
          have HF := Lib.hid hf
          clear hf
          rcases (by omega : y < 1 ∨ (1 ≤ y ∧ 5 < y)) with r1 | ⟨r1, r2⟩
          all_goals
            clear r
            go_wp2_with fail
            go_ret
            exact ⟨ret_bool HF.out, (Below.refl _ _).alloc (Nat.le_refl _) _⟩
      · go_wp2_with fail
        go_ret
        refine ⟨ret_bool (mayC_true ⟨c1, c2, c3, c4, ?_⟩), (Below.refl _ _).alloc (Nat.le_refl _) _⟩
        unfold GoodTo at hi
        rw [List.take_of_length_le (by omega)] at hi
        exact hi
  · have HF := Lib.hid (mayC_false (n := n) (l := l) (fun hh => c ⟨hh.1, hh.2.1, hh.2.2.1, hh.2.2.2.1⟩))
    rcases (by omega : n < 1 ∨ (1 ≤ n ∧ 1099511627776 < n) ∨ (1 ≤ n ∧ n ≤ 1099511627776 ∧ l.length < 1) ∨ (1 ≤ n ∧ n ≤ 1099511627776 ∧ 1 ≤ l.length ∧ 5 < l.length)) with r | ⟨r, r1⟩ | ⟨r, r1, r2⟩ | ⟨r, r1, r2, r3⟩
    all_goals
      clear c
      go_enter Try.func8, Try.ntmps8
      go_wp2_with fail
      go_ret
      exact ⟨ret_bool HF.out, (Below.refl _ _).alloc (Nat.le_refl _) _⟩
end Go.Proofs.Ytbomebnonkcieaa
