/- The plain law of Spread: both functions give the same list, and marks written into a list are read back. -/
import Derived.Test.YtnmkibklkdhceaaEvenP
import Derived.Test.YtnmkibklkdhceaaSpreadF
set_option linter.unusedVariables false
open Go Go.Ri
namespace Pu
theorem bump {i n : Nat} (hi : i < n) (hn : n ≤ 4611686018427387903) : IntKind.wrap .i64 ((i : Int) + 1) = ((i + 1 : Nat) : Int) := by
  rw [wrap64 (by omega) (by omega)]; omega

/-! ### marks -/
def marks (m : Int) : Nat → List Int
  | 0 => [] | n + 1 => m :: marks (m + 1) n
theorem marks_length : ∀ (n : Nat) (m : Int), (marks m n).length = n
  | 0, _ => rfl
  | n + 1, m => by rw [marks, List.length_cons, marks_length n]
theorem marks_get : ∀ (n : Nat) (m : Int) (i : Nat), i < n → (marks m n).getD i 0 = m + i
  | 0, _, _, h => absurd h (Nat.not_lt_zero _)
  | n + 1, m, 0, _ => by simp [marks]
  | n + 1, m, i + 1, h => by
    have := marks_get n (m + 1) i (by omega)
    simp only [marks, List.getD_cons_succ, this]; omega
theorem marks_add : ∀ (n : Nat) (m : Int), marks m (n + 1) = marks m n ++ [m + n]
  | 0, m => by simp [marks]
  | n + 1, m => by
    rw [marks, marks_add n (m + 1), marks, List.cons_append]
    congr 3; omega
theorem mark_p (xs : List Int) (m : Int) (h0 : -4611686018427387904 ≤ m) (h1 : m ≤ 4611686018427387903) (hn : xs.length ≤ 4611686018427387903) : ∀ (d k i : Nat), i + d = xs.length → d < k → Gf.laws_markIntS.p2 k (m + i) (i : Int) (marks m i ++ xs.drop i) = some (m + xs.length, marks m xs.length) := by
  intro d
  induction d with
  | zero =>
    intro k i hd hk
    obtain ⟨k, rfl⟩ : ∃ m, k = m + 1 := ⟨k - 1, by omega⟩
    have : i = xs.length := by omega
    subst this
    simp only [Gf.laws_markIntS.p2]
    rw [if_neg (by simp [marks_length])]
    simp
  | succ d ih =>
    intro k i hd hk
    obtain ⟨k, rfl⟩ : ∃ m, k = m + 1 := ⟨k - 1, by omega⟩
    have hl : (marks m i ++ xs.drop i).length = xs.length := by rw [List.length_append, marks_length, List.length_drop]; omega
    simp only [Gf.laws_markIntS.p2]
    rw [hl, if_pos (by simp only [decide_eq_true_eq]; omega), if_pos (by simp only [Bool.and_eq_true, decide_eq_true_eq]; omega), bump (n := xs.length) (by omega) (by omega), wrap64 (by omega) (by omega), Int.toNat_natCast]
    have e : List.modify (marks m i ++ xs.drop i) i (fun _ => m + i) = marks m (i + 1) ++ xs.drop (i + 1) := by
      rw [List.modify_eq_take_drop, List.take_append_of_le_length (by rw [marks_length]; exact Nat.le_refl _), List.drop_append_of_le_length (by rw [marks_length]; exact Nat.le_refl _), List.take_of_length_le (by rw [marks_length]; exact Nat.le_refl _), List.drop_of_length_le (by rw [marks_length]; exact Nat.le_refl _), marks_add, drop_cons (by omega)]
      simp
    have e2 : m + (i : Int) + 1 = m + ((i + 1 : Nat) : Int) := by omega
    rw [e, e2]
    exact ih k (i + 1) (by omega) (by omega)
theorem mark (xs : List Int) (m : Int) (h0 : -4611686018427387904 ≤ m) (h1 : m ≤ 4611686018427387903) (hn : xs.length ≤ 4611686018427387903) {k : Nat} (hk : xs.length < k) : Gf.laws_markIntS k xs m = some (m + xs.length, marks m xs.length) := by
  have := mark_p xs m h0 h1 hn xs.length k 0 (by omega) hk
  simpa [Gf.laws_markIntS, marks] using this
theorem held_p (n : Nat) (m : Int) (h0 : -4611686018427387904 ≤ m) (h1 : m ≤ 4611686018427387903) (hn : n ≤ 4611686018427387903) : ∀ (d k i : Nat), i + d = n → d < k → Gf.laws_heldIntS.p2 k (marks m n) (m + i) (i : Int) = some (m + n) := by
  intro d
  induction d with
  | zero =>
    intro k i hd hk
    obtain ⟨k, rfl⟩ : ∃ m, k = m + 1 := ⟨k - 1, by omega⟩
    have : i = n := by omega
    subst this
    simp only [Gf.laws_heldIntS.p2]
    rw [if_neg (by simp [marks_length])]
  | succ d ih =>
    intro k i hd hk
    obtain ⟨k, rfl⟩ : ∃ m, k = m + 1 := ⟨k - 1, by omega⟩
    simp only [Gf.laws_heldIntS.p2]
    rw [marks_length, if_pos (by simp only [decide_eq_true_eq]; omega), if_pos (by simp only [Bool.and_eq_true, decide_eq_true_eq]; omega), Int.toNat_natCast, marks_get n m i (by omega), if_neg (by simp), bump (n := n) (by omega) (by omega), wrap64 (by omega) (by omega)]
    have e2 : m + (i : Int) + 1 = m + ((i + 1 : Nat) : Int) := by omega
    rw [e2]
    exact ih k (i + 1) (by omega) (by omega)
theorem held (n : Nat) (m : Int) (h0 : -4611686018427387904 ≤ m) (h1 : m ≤ 4611686018427387903) (hn : n ≤ 4611686018427387903) {k : Nat} (hk : n < k) : Gf.laws_heldIntS k (marks m n) m = some (m + n) := by
  have := held_p n m h0 h1 hn n k 0 (by omega) hk
  simpa [Gf.laws_heldIntS] using this

/-! ### spreading -/
theorem spread_same : ∀ (k : Nat) (a n i : Int) (w : List Int), Gf.impl_Spread.p5 k a n n i w = Gf.spec_Spread.p5 k a n i w
  | 0, _, _, _, _ => rfl
  | k + 1, a, n, i, w => by
    simp only [Gf.impl_Spread.p5, Gf.spec_Spread.p5, spread_same k]
theorem spread_len (a : Int) (n : Nat) (hn : n ≤ 4) : ∀ (d k i : Nat) (w : List Int), i + d = n → d < k → w.length = i → ∃ r, Gf.spec_Spread.p5 k a n i w = some r ∧ r.length = n := by
  intro d
  induction d with
  | zero =>
    intro k i w hd hk hw
    obtain ⟨k, rfl⟩ : ∃ m, k = m + 1 := ⟨k - 1, by omega⟩
    simp only [Gf.spec_Spread.p5]
    rw [if_neg (by simp only [decide_eq_true_eq]; omega)]
    exact ⟨w, rfl, by omega⟩
  | succ d ih =>
    intro k i w hd hk hw
    obtain ⟨k, rfl⟩ : ∃ m, k = m + 1 := ⟨k - 1, by omega⟩
    have hr : ∀ x : Int, decide ((List.length w + 1) * 8 ≤ room) = true := fun _ => by
      simp only [decide_eq_true_eq]; unfold room; omega
    have n0 : ((n : Int) != 0) = true := by simp; omega
    simp only [Gf.spec_Spread.p5]
    rw [if_pos (by simp only [decide_eq_true_eq]; omega), if_pos n0, if_pos n0, if_pos (hr 0), if_pos (hr 0), bump (n := n) (by omega) (by omega)]
    split
    · exact ih k (i + 1) _ (by omega) (by omega) (by simp [hw])
    · exact ih k (i + 1) _ (by omega) (by omega) (by simp [hw])
theorem in_same (k : Nat) (a b c : Int) : Gf.impl_in k a b c = some (decide (b ≤ a) && decide (a ≤ c)) := by
  unfold Gf.impl_in
  by_cases h : a ≥ b
  · rw [if_pos (by simpa using h)]; simp [h]
  · rw [if_neg (by simpa using h)]; simp [show ¬ b ≤ a from h]
theorem l01In_same (k : Nat) (a b c : Int) : Gf.spec_l01In k a b c = some (decide (b ≤ a) && decide (a ≤ c)) := in_same k a b c
theorem isNum_same (k : Nat) (a : Int) : Gf.impl_isNum k a = some (decide (0 ≤ a) && decide (a ≤ 1125899906842624)) := by
  unfold Gf.impl_isNum; rw [in_same]; rfl
theorem l01Num_same (k : Nat) (a : Int) : Gf.spec_l01Num k a = some (decide (0 ≤ a) && decide (a ≤ 1125899906842624)) := by
  unfold Gf.spec_l01Num; rw [l01In_same]; rfl
theorem isChoice_same (k : Nat) (a : Int) : Gf.impl_isChoice k a = some (decide (1 ≤ a) && decide (a ≤ 4)) := by
  unfold Gf.impl_isChoice; rw [in_same]; rfl
theorem spread (a n : Int) {k : Nat} (hk : 5 ≤ k) : ∃ r, Gf.spec_Spread k a n = some r ∧ Gf.impl_Spread k a n = some r ∧ r.length ≤ 4 := by
  unfold Gf.spec_Spread Gf.impl_Spread
  rw [isNum_same, l01Num_same, l01In_same, isChoice_same]
  simp only [Option.bind_some]
  split
  · exact ⟨[], rfl, rfl, by simp⟩
  · split
    · exact ⟨[], rfl, rfl, by simp⟩
    · rename_i h
      have h : 1 ≤ n ∧ n ≤ 4 := by simpa using h
      obtain ⟨m, rfl⟩ : ∃ m : Nat, n = m := ⟨n.toNat, by omega⟩
      obtain ⟨r, hr, hl⟩ := spread_len a m (by omega) m k 0 [] (by omega) (by omega) rfl
      exact ⟨r, hr, by rw [spread_same]; exact hr, by omega⟩
theorem FnExactSpread (a n : Int) (_ : In64 a) (_ : In64 n) : ∃ k, Gf.laws_FnExactSpread k a n = some true := by
  refine ⟨8, ?_⟩
  obtain ⟨r, h1, h2, hl⟩ := spread a n (k := 8) (by omega)
  unfold Gf.laws_FnExactSpread
  rw [h1, h2]
  simp only [Option.bind_some, eqIntS r (by omega : r.length ≤ 1048576) (by omega : r.length < 8), mark r 1 (by omega) (by omega) (by omega) (by omega : r.length < 8), held r.length 1 (by omega) (by omega) (by omega) (by omega : r.length < 8)]
  rw [if_neg (by simp), if_neg (by simp; omega), if_neg (by simp), if_neg (by simp), if_neg (by simp; omega), if_neg (by simp)]
end Pu
