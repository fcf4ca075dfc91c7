/- The plain law of Gives: both functions list the same gifts; marks written into a list of events are read back. -/
import Derived.Test.YtnmkibklkdhceaaNeedsP
import Derived.Test.YtnmkibklkdhceaaGivesF
set_option linter.unusedVariables false
set_option linter.unusedSimpArgs false
open Go Go.Ri
namespace Pu
/-- n rounds of a loop -/
theorem rounds {γ : Type} (q : Nat → Nat → γ) (n K : Nat) (h : ∀ k i, i < n → K ≤ k → q (k + 1) i = q k (i + 1)) : ∀ k, K + n ≤ k → q k 0 = q (k - n) n := by
  have key : ∀ m k, m ≤ n → K + m ≤ k → q k 0 = q (k - m) m := by
    intro m
    induction m with
    | zero => intro k _ _; rfl
    | succ m ih =>
      intro k hm hk
      rw [ih k (by omega) (by omega)]
      obtain ⟨j, hj⟩ : ∃ j, k - m = j + 1 := ⟨k - m - 1, by omega⟩
      have : k - (m + 1) = j := by omega
      rw [hj, this]
      exact h j m (by omega) (by omega)
  exact fun k hk => key n k (Nat.le_refl _) hk
theorem modify_modify {α : Type} : ∀ (l : List α) (i : Nat) (f g : α → α), (l.modify i f).modify i g = l.modify i (fun x => g (f x))
  | [], 0, _, _ => rfl
  | [], _ + 1, _, _ => rfl
  | _ :: _, 0, _, _ => rfl
  | x :: l, i + 1, f, g => by simp only [List.modify_succ_cons, modify_modify l i f g]
abbrev Ev := Int × Int × Int × Int × Int × Int × Int × Int × Int × Int × Int × Int
abbrev ev0 : Ev := (0, 0, 0, 0, 0, 0, 0, 0, 0, 0, 0, 0)

/-! ### comparing events -/
theorem eqMsg (k : Nat) (a : Int × Int × Int × Int) : Gf.laws_eqMsg k a a = some true := by simp [Gf.laws_eqMsg]
theorem eqRec (k : Nat) (a : Int × Int × Int × Int × Int × Int × Int × Int × Int) : Gf.laws_eqRec k a a = some true := by simp [Gf.laws_eqRec, eqMsg]
theorem eqEvent (k : Nat) (a : Ev) : Gf.laws_eqEvent k a a = some true := by simp [Gf.laws_eqEvent, eqRec]
theorem inside {i n : Nat} (h : i < n) : (decide ((0 : Int) ≤ (i : Int)) && decide ((i : Int) < (n : Int))) = true := by simp only [Bool.and_eq_true, decide_eq_true_eq]; omega
theorem below {i n : Nat} (h : i < n) : decide ((i : Int) < (n : Int)) = true := by simp only [decide_eq_true_eq]; omega
theorem nonneg (i : Nat) : decide ((0 : Int) ≤ (i : Int)) = true := by simp
theorem notBelow (n : Nat) : ¬ decide ((n : Int) < (n : Int)) = true := by simp
theorem eqEventS (xs : List Ev) (hn : xs.length ≤ 1048576) {k : Nat} (hk : xs.length < k) : Gf.laws_eqEventS k xs xs = some true := by
  unfold Gf.laws_eqEventS
  rw [if_neg (by simp)]
  refine (rounds (fun k i => Gf.laws_eqEventS.p4 k xs xs (i : Int)) xs.length 1 (fun k i hi _ => ?_) k (by omega)).trans ?_
  · simp only [Gf.laws_eqEventS.p4]
    rw [if_pos (below hi), if_pos (inside hi), if_pos (inside hi), eqEvent, bump hi (by omega)]
    rfl
  · obtain ⟨j, hj⟩ : ∃ j, k - xs.length = j + 1 := ⟨k - xs.length - 1, by omega⟩
    simp only [hj, Gf.laws_eqEventS.p4]
    rw [if_neg (notBelow _)]

/-! ### marks -/
def evAt (m : Int) : Ev := (m, m + 1, m + 2, m + 3, m + 4, m + 5, m + 6, m + 7, m + 8, m + 9, m + 10, m + 11)
/-- entries that are told by the number they begin with, c numbers each -/
def runs {α : Type} (at_ : Int → α) (c : Int) (m : Int) : Nat → List α
  | 0 => [] | n + 1 => runs at_ c m n ++ [at_ (m + n * c)]
theorem runs_length {α : Type} (a : Int → α) (c m : Int) : ∀ n, (runs a c m n).length = n
  | 0 => rfl
  | n + 1 => by rw [runs, List.length_append, runs_length a c m n]; rfl
theorem runs_get {α : Type} (a : Int → α) (c m : Int) (z : α) : ∀ n i, i < n → (runs a c m n).getD i z = a (m + i * c)
  | 0, _, h => absurd h (Nat.not_lt_zero _)
  | n + 1, i, h => by
    rw [runs, List.getD_eq_getElem?_getD]
    by_cases hi : i < n
    · rw [List.getElem?_append_left (by rw [runs_length]; exact hi), ← List.getD_eq_getElem?_getD]
      exact runs_get a c m z n i hi
    · have : i = n := by omega
      subst this
      rw [List.getElem?_append_right (by rw [runs_length]; exact Nat.le_refl _), runs_length]
      simp
theorem runs_put {α : Type} (a : Int → α) (c m : Int) (xs : List α) {i : Nat} (h : i < xs.length) : List.modify (runs a c m i ++ xs.drop i) i (fun _ => a (m + i * c)) = runs a c m (i + 1) ++ xs.drop (i + 1) := by
  rw [List.modify_eq_take_drop, List.take_append_of_le_length (by rw [runs_length]; exact Nat.le_refl _), List.drop_append_of_le_length (by rw [runs_length]; exact Nat.le_refl _), List.take_of_length_le (by rw [runs_length]; exact Nat.le_refl _), List.drop_of_length_le (by rw [runs_length]; exact Nat.le_refl _), List.drop_eq_getElem_cons h]
  simp only [runs, List.nil_append, List.modifyHead_cons, List.append_assoc, List.singleton_append]
theorem markEventS (xs : List Ev) (m : Int) (h0 : 0 ≤ m) (h1 : m ≤ 1152921504606846976) (hn : xs.length ≤ 1048576) {k : Nat} (hk : xs.length < k) : Gf.laws_markEventS k xs m = some (m + xs.length * 12, runs evAt 12 m xs.length) := by
  unfold Gf.laws_markEventS
  have e := rounds (fun k i => Gf.laws_markEventS.p2 k (m + (i : Int) * 12) (i : Int) (runs evAt 12 m i ++ xs.drop i)) xs.length 1 (fun k i hi _ => ?_) k (by omega)
  · simp only [Int.zero_mul, Int.add_zero, runs, List.nil_append, List.drop_zero, Int.natCast_zero] at e
    refine e.trans ?_
    obtain ⟨j, hj⟩ : ∃ j, k - xs.length = j + 1 := ⟨k - xs.length - 1, by omega⟩
    simp only [hj, Gf.laws_markEventS.p2]
    rw [List.drop_of_length_le (Nat.le_refl _), List.append_nil, runs_length, if_neg (notBelow _)]
  · have hl : (runs evAt 12 m i ++ xs.drop i).length = xs.length := by rw [List.length_append, runs_length, List.length_drop]; omega
    simp only [Gf.laws_markEventS.p2]
    rw [hl]
    simp only [below hi, nonneg, Bool.and_self, if_true]
    rw [bump hi (by omega)]
    simp only [modify_modify, Int.toNat_natCast]
    rw [wrap64 (z := m + (i : Int) * 12 + 1) (by omega) (by omega), wrap64 (z := m + (i : Int) * 12 + 1 + 1) (by omega) (by omega), wrap64 (z := m + (i : Int) * 12 + 1 + 1 + 1) (by omega) (by omega), wrap64 (z := m + (i : Int) * 12 + 1 + 1 + 1 + 1) (by omega) (by omega), wrap64 (z := m + (i : Int) * 12 + 1 + 1 + 1 + 1 + 1) (by omega) (by omega), wrap64 (z := m + (i : Int) * 12 + 1 + 1 + 1 + 1 + 1 + 1) (by omega) (by omega), wrap64 (z := m + (i : Int) * 12 + 1 + 1 + 1 + 1 + 1 + 1 + 1) (by omega) (by omega), wrap64 (z := m + (i : Int) * 12 + 1 + 1 + 1 + 1 + 1 + 1 + 1 + 1) (by omega) (by omega), wrap64 (z := m + (i : Int) * 12 + 1 + 1 + 1 + 1 + 1 + 1 + 1 + 1 + 1) (by omega) (by omega), wrap64 (z := m + (i : Int) * 12 + 1 + 1 + 1 + 1 + 1 + 1 + 1 + 1 + 1 + 1) (by omega) (by omega), wrap64 (z := m + (i : Int) * 12 + 1 + 1 + 1 + 1 + 1 + 1 + 1 + 1 + 1 + 1 + 1) (by omega) (by omega), wrap64 (z := m + (i : Int) * 12 + 1 + 1 + 1 + 1 + 1 + 1 + 1 + 1 + 1 + 1 + 1 + 1) (by omega) (by omega)]
    rw [← runs_put evAt 12 m xs hi]
    have e1 : m + (i : Int) * 12 + 1 + 1 + 1 + 1 + 1 + 1 + 1 + 1 + 1 + 1 + 1 + 1 = m + ((i + 1 : Nat) : Int) * 12 := by omega
    rw [e1]
    simp only [evAt, Int.add_assoc]
    rfl
theorem heldEventS (n : Nat) (m : Int) (h0 : 0 ≤ m) (h1 : m ≤ 1152921504606846976) (hn : n ≤ 1048576) {k : Nat} (hk : n < k) : Gf.laws_heldEventS k (runs evAt 12 m n) m = some (m + n * 12) := by
  unfold Gf.laws_heldEventS
  have e := rounds (fun k i => Gf.laws_heldEventS.p2 k (runs evAt 12 m n) (m + (i : Int) * 12) (i : Int)) n 1 (fun k i hi _ => ?_) k (by omega)
  · simp only [Int.zero_mul, Int.add_zero, Int.natCast_zero] at e
    refine e.trans ?_
    obtain ⟨j, hj⟩ : ∃ j, k - n = j + 1 := ⟨k - n - 1, by omega⟩
    simp only [hj, Gf.laws_heldEventS.p2]
    rw [runs_length, if_neg (notBelow _)]
  · simp only [Gf.laws_heldEventS.p2]
    rw [runs_length]
    simp only [below hi, nonneg, Bool.and_self, if_true, Int.toNat_natCast]
    have hr : List.getD (runs evAt 12 m n) i ((0, 0, 0, 0, 0, 0, 0, 0, 0, 0, 0, 0) : Ev) = evAt (m + i * 12) := runs_get evAt 12 m _ n i hi
    simp only [hr]
    rw [bump hi (by omega)]
    rw [wrap64 (z := m + (i : Int) * 12 + 1) (by omega) (by omega), wrap64 (z := m + (i : Int) * 12 + 1 + 1) (by omega) (by omega), wrap64 (z := m + (i : Int) * 12 + 1 + 1 + 1) (by omega) (by omega), wrap64 (z := m + (i : Int) * 12 + 1 + 1 + 1 + 1) (by omega) (by omega), wrap64 (z := m + (i : Int) * 12 + 1 + 1 + 1 + 1 + 1) (by omega) (by omega), wrap64 (z := m + (i : Int) * 12 + 1 + 1 + 1 + 1 + 1 + 1) (by omega) (by omega), wrap64 (z := m + (i : Int) * 12 + 1 + 1 + 1 + 1 + 1 + 1 + 1) (by omega) (by omega), wrap64 (z := m + (i : Int) * 12 + 1 + 1 + 1 + 1 + 1 + 1 + 1 + 1) (by omega) (by omega), wrap64 (z := m + (i : Int) * 12 + 1 + 1 + 1 + 1 + 1 + 1 + 1 + 1 + 1) (by omega) (by omega), wrap64 (z := m + (i : Int) * 12 + 1 + 1 + 1 + 1 + 1 + 1 + 1 + 1 + 1 + 1) (by omega) (by omega), wrap64 (z := m + (i : Int) * 12 + 1 + 1 + 1 + 1 + 1 + 1 + 1 + 1 + 1 + 1 + 1) (by omega) (by omega), wrap64 (z := m + (i : Int) * 12 + 1 + 1 + 1 + 1 + 1 + 1 + 1 + 1 + 1 + 1 + 1 + 1) (by omega) (by omega)]
    have e1 : m + (i : Int) * 12 + 1 + 1 + 1 + 1 + 1 + 1 + 1 + 1 + 1 + 1 + 1 + 1 = m + ((i + 1 : Nat) : Int) * 12 := by omega
    rw [e1]
    simp only [evAt, Int.add_assoc, Int.reduceAdd, bne_self_eq_false, Bool.false_eq_true, if_false]
/-! ### the gifts -/
theorem gives_same : ∀ (k : Nat) (a t : Int) (l : List Int) (n i : Int) (w : List Ev), Gf.impl_Gives.p3 k a t l n i w = Gf.spec_Gives.p3 k a t l n i w
  | 0, _, _, _, _, _, _ => rfl
  | k + 1, a, t, l, n, i, w => by
    simp only [Gf.impl_Gives.p3, Gf.spec_Gives.p3, gives_same k, Gf.impl_gift, Gf.spec_l21Give]
def gifts (a t : Int) (l : List Int) : Nat → List Ev
  | 0 => []
  | i + 1 => if (i : Int) ≠ t ∧ l.getD i 0 ≠ 0 then gifts a t l i ++ [(1, (i : Int), 0, 3, a, 0, t, l.getD i 0, 0, 0, 0, 0)] else gifts a t l i
theorem gifts_length (a t : Int) (l : List Int) : ∀ i, (gifts a t l i).length ≤ i
  | 0 => Nat.le_refl _
  | i + 1 => by
    have := gifts_length a t l i
    unfold gifts
    split
    · rw [List.length_append]; simp only [List.length_singleton]; omega
    · omega
theorem spec_gives (a t : Int) (l : List Int) (hn : l.length ≤ 1048576) {k : Nat} (hk : l.length < k) : Gf.spec_Gives k a t l = some (gifts a t l l.length) := by
  unfold Gf.spec_Gives
  refine (rounds (fun k i => Gf.spec_Gives.p3 k a t l l.length (i : Int) (gifts a t l i)) l.length 1 (fun k i hi _ => ?_) k (by omega)).trans ?_
  · simp only [Gf.spec_Gives.p3]
    rw [if_pos (below hi), if_pos (inside hi), Int.toNat_natCast, bump hi (by omega)]
    have hlen := gifts_length a t l i
    by_cases h1 : (i : Int) = t
    · rw [if_neg (by simp [h1]), gifts, if_neg (fun h => h.1 h1)]
    · rw [if_pos (by simpa using h1)]
      by_cases h2 : l.getD i 0 = 0
      · rw [if_neg (by rw [h2]; simp), gifts, if_neg (fun h => h.2 h2)]
      · rw [if_pos (by simpa only [bne_iff_ne] using h2)]
        simp only [Gf.spec_l21Give, Option.bind_some]
        rw [if_pos (by simp only [decide_eq_true_eq]; unfold room; omega), gifts, if_pos ⟨h1, h2⟩]
  · obtain ⟨j, hj⟩ : ∃ j, k - l.length = j + 1 := ⟨k - l.length - 1, by omega⟩
    simp only [hj, Gf.spec_Gives.p3]
    rw [if_neg (notBelow _)]
theorem impl_gives (a t : Int) (l : List Int) (hn : l.length ≤ 1048576) {k : Nat} (hk : l.length < k) : Gf.impl_Gives k a t l = some (gifts a t l l.length) := by
  rw [← spec_gives a t l hn hk]
  exact gives_same ..
theorem FnExactGives (a t : Int) (l : List Int) (_ : In64 a) (_ : In64 t) (_ : ∀ y, y ∈ l → In64 y) : ∃ k, Gf.laws_FnExactGives k a t l = some true := by
  refine ⟨l.length + 1, ?_⟩
  unfold Gf.laws_FnExactGives
  by_cases hbig : l.length > 1048576
  · rw [if_pos (by simp only [decide_eq_true_eq]; omega)]
  · have hlen : l.length ≤ 1048576 := by omega
    have hg := gifts_length a t l l.length
    rw [if_neg (by simp only [decide_eq_true_eq]; omega), toIntS l hlen (by omega)]
    simp only [Option.bind_some]
    rw [spec_gives a t l hlen (by omega), impl_gives a t l hlen (by omega)]
    simp only [Option.bind_some]
    rw [eqEventS _ (by omega) (by omega), eqIntS l hlen (by omega), mark l 1 (by omega) (by omega) (by omega) (by omega), markEventS _ 1 (by omega) (by omega) (by omega) (by omega)]
    simp only [Option.bind_some]
    rw [heldEventS _ 1 (by omega) (by omega) (by omega) (by omega)]
    simp only [Option.bind_some]
    rw [if_neg (by simp), if_neg (by simp), if_neg (by simp only [decide_eq_true_eq]; omega), if_neg (by simp), if_neg (by simp only [decide_eq_true_eq]; omega), if_neg (by simp), if_neg (by simp), if_neg (by simp only [decide_eq_true_eq]; omega), if_neg (by simp)]
end Pu
