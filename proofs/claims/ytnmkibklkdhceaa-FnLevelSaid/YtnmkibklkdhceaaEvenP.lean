/- The plain law of Even: both functions tell whether two entries are more than 1 apart. -/
import Derived.Test.YtnmkibklkdhceaaEvenF
set_option linter.unusedVariables false
open Go Go.Ri
namespace Pu
theorem wrap64 {z : Int} (h0 : -9223372036854775808 ≤ z) (h1 : z ≤ 9223372036854775807) : IntKind.wrap .i64 z = z := by
  have e1 : (2 ^ IntKind.i64.bits : Int) = 18446744073709551616 := by decide
  have e2 : (2 ^ (IntKind.i64.bits - 1) : Int) = 9223372036854775808 := by decide
  have e3 : IntKind.i64.signed = true := rfl
  simp only [IntKind.wrap, e1, e2, e3, Bool.true_and, decide_eq_true_eq]
  split <;> omega
def In64 (x : Int) : Prop := -9223372036854775808 ≤ x ∧ x ≤ 9223372036854775807
theorem getD_mem {xs : List Int} {i : Nat} (h : i < xs.length) : xs.getD i 0 ∈ xs := by
  rw [List.getD_eq_getElem?_getD, List.getElem?_eq_getElem h]; exact List.getElem_mem h
theorem drop_cons {xs : List Int} {i : Nat} (h : i < xs.length) : xs.drop i = xs.getD i 0 :: xs.drop (i + 1) := by
  rw [List.getD_eq_getElem?_getD, List.getElem?_eq_getElem h]
  exact List.drop_eq_getElem_cons h

/-! ### copying -/
theorem toIntS_p (v0 : List Int) (hn : v0.length ≤ 1048576) : ∀ (d k i : Nat) (w0 : List Int), i + d = v0.length → d < k → w0.length = v0.length → (∀ j, j < i → w0[j]? = v0[j]?) → Gf.laws_toIntS.p3 k v0 (i : Int) w0 = some v0 := by
  intro d
  induction d with
  | zero =>
    intro k i w0 hd hk hl hw
    obtain ⟨k, rfl⟩ : ∃ m, k = m + 1 := ⟨k - 1, by omega⟩
    simp only [Gf.laws_toIntS.p3]
    rw [if_neg (by simp only [decide_eq_true_eq]; omega)]
    congr 1
    apply List.ext_getElem?
    intro j
    by_cases hj : j < i
    · exact hw j hj
    · rw [List.getElem?_eq_none (by omega), List.getElem?_eq_none (by omega)]
  | succ d ih =>
    intro k i w0 hd hk hl hw
    obtain ⟨k, rfl⟩ : ∃ m, k = m + 1 := ⟨k - 1, by omega⟩
    simp only [Gf.laws_toIntS.p3]
    rw [if_pos (by simp only [decide_eq_true_eq]; omega), if_pos (by simp only [Bool.and_eq_true, decide_eq_true_eq]; omega), if_pos (by simp only [Bool.and_eq_true, decide_eq_true_eq]; omega), wrap64 (by omega) (by omega)]
    have e : (i : Int) + 1 = ((i + 1 : Nat) : Int) := by omega
    rw [e, Int.toNat_natCast]
    refine ih k (i + 1) _ (by omega) (by omega) (by rw [List.length_modify]; exact hl) fun j hj => ?_
    rw [List.getElem?_modify]
    by_cases hji : j = i
    · subst hji
      rw [List.getElem?_eq_getElem (by omega), List.getD_eq_getElem?_getD, List.getElem?_eq_getElem (by omega)]
      simp
    · rw [hw j (by omega)]
      cases v0[j]? with
      | none => rfl
      | some a => simp [Ne.symm hji]
theorem toIntS (xs : List Int) (hn : xs.length ≤ 1048576) {k : Nat} (hk : xs.length < k) : Gf.laws_toIntS k xs = some xs := by
  unfold Gf.laws_toIntS
  rw [if_pos (by
    simp only [Bool.and_eq_true, decide_eq_true_eq, Int.toNat_natCast]
    refine ⟨by omega, ?_⟩
    unfold room
    omega)]
  exact toIntS_p xs hn xs.length k 0 _ (by omega) hk (by simp) (fun j hj => absurd hj (Nat.not_lt_zero _))

/-! ### comparing -/
theorem eqIntS_p (xs : List Int) (hn : xs.length ≤ 1048576) : ∀ (d k i : Nat), i + d = xs.length → d < k → Gf.laws_eqIntS.p4 k xs xs (i : Int) = some true := by
  intro d
  induction d with
  | zero =>
    intro k i hd hk
    obtain ⟨k, rfl⟩ : ∃ m, k = m + 1 := ⟨k - 1, by omega⟩
    simp only [Gf.laws_eqIntS.p4]
    rw [if_neg (by simp only [decide_eq_true_eq]; omega)]
  | succ d ih =>
    intro k i hd hk
    obtain ⟨k, rfl⟩ : ∃ m, k = m + 1 := ⟨k - 1, by omega⟩
    simp only [Gf.laws_eqIntS.p4]
    rw [if_pos (by simp only [decide_eq_true_eq]; omega), if_pos (by simp only [Bool.and_eq_true, decide_eq_true_eq]; omega), if_pos (by simp only [Bool.and_eq_true, decide_eq_true_eq]; omega), if_neg (by simp), wrap64 (by omega) (by omega)]
    exact ih k (i + 1) (by omega) (by omega)
theorem eqIntS (xs : List Int) (hn : xs.length ≤ 1048576) {k : Nat} (hk : xs.length < k) : Gf.laws_eqIntS k xs xs = some true := by
  unfold Gf.laws_eqIntS
  rw [if_neg (by simp)]
  exact eqIntS_p xs hn xs.length k 0 (by omega) hk

/-! ### the reference -/
def far (x y : Int) : Bool := decide (x > y) && decide (x - 1 > y)
theorem spec_p5 (c2 : List Int → List Int → Int → Int → Option Bool) (v0 v7 xs : List Int) (x v8 v9 : Int) (hn : xs.length ≤ 1048576) (hx : In64 x) (hxs : ∀ y, y ∈ xs → In64 y) : ∀ (d k i : Nat), i + d = xs.length → d < k →
    Gf.spec_Even.p5 c2 k v0 x v7 v8 v9 xs (xs.length : Int) (i : Int) = if (xs.drop i).any (far x) = true then some false else c2 v0 v7 v8 (IntKind.wrap .i64 (v9 + 1)) := by
  intro d
  induction d with
  | zero =>
    intro k i hd hk
    obtain ⟨k, rfl⟩ : ∃ m, k = m + 1 := ⟨k - 1, by omega⟩
    simp only [Gf.spec_Even.p5]
    rw [if_neg (by simp only [decide_eq_true_eq]; omega), List.drop_eq_nil_of_le (by omega)]
    simp
  | succ d ih =>
    intro k i hd hk
    obtain ⟨k, rfl⟩ : ∃ m, k = m + 1 := ⟨k - 1, by omega⟩
    have hi : i < xs.length := by omega
    have hy := hxs _ (getD_mem hi)
    have hrec := ih k (i + 1) (by omega) (by omega)
    simp only [Gf.spec_Even.p5]
    rw [if_pos (by simp only [decide_eq_true_eq]; omega), if_pos (by simp only [Bool.and_eq_true, decide_eq_true_eq]; omega), wrap64 (z := (i : Int) + 1) (by omega) (by omega), Int.toNat_natCast, drop_cons hi, List.any_cons]
    have e : (i : Int) + 1 = ((i + 1 : Nat) : Int) := by omega
    rw [e, hrec]
    generalize xs.getD i 0 = y at hy
    unfold In64 at hx hy
    by_cases h1 : x > y
    · rw [if_pos (by simpa using h1), wrap64 (by omega) (by omega)]
      by_cases h2 : x - 1 > y
      · rw [if_pos (by simpa using h2), if_pos (by simp [far, h1, h2])]
      · rw [if_neg (by simpa using h2)]
        have : far x y = false := by simp only [far, Bool.and_eq_false_iff, decide_eq_false_iff_not]; exact .inr h2
        rw [this, Bool.false_or]
    · rw [if_neg (by simpa using h1)]
      have : far x y = false := by simp only [far, Bool.and_eq_false_iff, decide_eq_false_iff_not]; exact .inl h1
      rw [this, Bool.false_or]
theorem spec_p2 (xs : List Int) (hn : xs.length ≤ 1048576) (hxs : ∀ y, y ∈ xs → In64 y) : ∀ (d k i : Nat), i + d = xs.length → d + xs.length + 1 < k →
    Gf.spec_Even.p2 k xs xs (xs.length : Int) (i : Int) = some (!((xs.drop i).any fun x => xs.any (far x))) := by
  intro d
  induction d with
  | zero =>
    intro k i hd hk
    obtain ⟨k, rfl⟩ : ∃ m, k = m + 1 := ⟨k - 1, by omega⟩
    simp only [Gf.spec_Even.p2]
    rw [if_neg (by simp only [decide_eq_true_eq]; omega), List.drop_eq_nil_of_le (by omega)]
    simp
  | succ d ih =>
    intro k i hd hk
    obtain ⟨k, rfl⟩ : ∃ m, k = m + 1 := ⟨k - 1, by omega⟩
    have hi : i < xs.length := by omega
    have hy := hxs _ (getD_mem hi)
    have hrec := ih k (i + 1) (by omega) (by omega)
    simp only [Gf.spec_Even.p2]
    rw [if_pos (by simp only [decide_eq_true_eq]; omega), if_pos (by simp only [Bool.and_eq_true, decide_eq_true_eq]; omega), Int.toNat_natCast]
    have h5 := spec_p5 (Gf.spec_Even.p2 k) xs xs xs (xs.getD i 0) (xs.length : Int) (i : Int) hn hy hxs xs.length k 0 (by omega) (by omega)
    rw [List.drop_zero] at h5
    rw [show ((0 : Nat) : Int) = (0 : Int) from rfl] at h5
    rw [h5, wrap64 (by omega) (by omega), drop_cons hi, List.any_cons]
    have e : (i : Int) + 1 = ((i + 1 : Nat) : Int) := by omega
    rw [e, hrec]
    cases xs.any (far (xs.getD i 0)) <;> simp
theorem spec_even (xs : List Int) (hn : xs.length ≤ 1048576) (hxs : ∀ y, y ∈ xs → In64 y) {k : Nat} (hk : 2 * xs.length + 1 < k) : Gf.spec_Even k xs = some (!(xs.any fun x => xs.any (far x))) := by
  have := spec_p2 xs hn hxs xs.length k 0 (by omega) (by omega)
  rw [List.drop_zero] at this
  exact this

/-! ### the program -/
def far2 (x y : Int) : Bool := decide (x > y + 1) || decide (y > x + 1)
theorem impl_p5 (c2 : List Int → List Int → Int → Int → Option Bool) (v0 v7 ys : List Int) (x v8 v9 : Int) (hn : ys.length ≤ 1048576) (hx : In64 x) (hys : ∀ y, y ∈ ys → In64 y) : ∀ (d k i : Nat), i + d = ys.length → d < k →
    Gf.impl_Even.p5 c2 k v0 x v7 v8 v9 ys (ys.length : Int) (i : Int) = if (ys.drop i).any (far2 x) = true then some false else c2 v0 v7 v8 (IntKind.wrap .i64 (v9 + 1)) := by
  intro d
  induction d with
  | zero =>
    intro k i hd hk
    obtain ⟨k, rfl⟩ : ∃ m, k = m + 1 := ⟨k - 1, by omega⟩
    simp only [Gf.impl_Even.p5]
    rw [if_neg (by simp only [decide_eq_true_eq]; omega), List.drop_eq_nil_of_le (by omega)]
    simp
  | succ d ih =>
    intro k i hd hk
    obtain ⟨k, rfl⟩ : ∃ m, k = m + 1 := ⟨k - 1, by omega⟩
    have hi : i < ys.length := by omega
    have hy := hys _ (getD_mem hi)
    have hrec := ih k (i + 1) (by omega) (by omega)
    simp only [Gf.impl_Even.p5]
    rw [if_pos (by simp only [decide_eq_true_eq]; omega), if_pos (by simp only [Bool.and_eq_true, decide_eq_true_eq]; omega), wrap64 (z := (i : Int) + 1) (by omega) (by omega), Int.toNat_natCast, drop_cons hi, List.any_cons]
    have e : (i : Int) + 1 = ((i + 1 : Nat) : Int) := by omega
    rw [e, hrec]
    generalize ys.getD i 0 = y at hy
    unfold In64 at hx hy
    by_cases h1 : x = y
    · subst h1
      rw [if_neg (by simp)]
      have : far2 x x = false := by simp only [far2, Bool.or_eq_false_iff, decide_eq_false_iff_not]; omega
      rw [this, Bool.false_or]
    · rw [if_pos (by simpa using h1)]
      by_cases h2 : y > x
      · rw [if_pos h2, if_neg (show ¬ y < x by omega), wrap64 (z := y - 1) (by omega) (by omega)]
        by_cases h3 : y - 1 > x
        · have : far2 x y = true := by simp only [far2, Bool.or_eq_true, decide_eq_true_eq]; omega
          rw [if_pos (by simpa using h3), this, Bool.true_or, if_pos rfl]
        · have : far2 x y = false := by simp only [far2, Bool.or_eq_false_iff, decide_eq_false_iff_not]; omega
          rw [if_neg (by simpa using h3), this, Bool.false_or]
      · rw [if_neg h2, if_pos (show y < x by omega), wrap64 (z := x - 1) (by omega) (by omega)]
        by_cases h3 : x - 1 > y
        · have : far2 x y = true := by simp only [far2, Bool.or_eq_true, decide_eq_true_eq]; omega
          rw [if_pos (by simpa using h3), this, Bool.true_or, if_pos rfl]
        · have : far2 x y = false := by simp only [far2, Bool.or_eq_false_iff, decide_eq_false_iff_not]; omega
          rw [if_neg (by simpa using h3), this, Bool.false_or]
theorem impl_p2 (xs : List Int) (hn : xs.length ≤ 1048576) (hxs : ∀ y, y ∈ xs → In64 y) : ∀ (d k i : Nat), i + d = xs.length → d + xs.length + 1 < k →
    ∃ r, Gf.impl_Even.p2 k xs xs (xs.length : Int) (i : Int) = some r ∧ (r = false ↔ ∃ a b, i ≤ a ∧ a < xs.length ∧ b < a ∧ far2 (xs.getD a 0) (xs.getD b 0) = true) := by
  intro d
  induction d with
  | zero =>
    intro k i hd hk
    obtain ⟨k, rfl⟩ : ∃ m, k = m + 1 := ⟨k - 1, by omega⟩
    simp only [Gf.impl_Even.p2]
    rw [if_neg (by simp only [decide_eq_true_eq]; omega)]
    exact ⟨true, rfl, by simp; intro a b h; omega⟩
  | succ d ih =>
    intro k i hd hk
    obtain ⟨k, rfl⟩ : ∃ m, k = m + 1 := ⟨k - 1, by omega⟩
    have hi : i < xs.length := by omega
    have hy := hxs _ (getD_mem hi)
    obtain ⟨r, hr, hr2⟩ := ih k (i + 1) (by omega) (by omega)
    simp only [Gf.impl_Even.p2]
    rw [if_pos (by simp only [decide_eq_true_eq]; omega), if_pos (by simp only [Bool.and_eq_true, decide_eq_true_eq]; omega), if_pos (by simp only [Bool.and_eq_true, decide_eq_true_eq]; omega)]
    have e0 : List.take (Int.toNat ((i : Int) - 0)) (List.drop (Int.toNat 0) xs) = xs.take i := by simp
    rw [e0, Int.toNat_natCast]
    have hl : (xs.take i).length = i := by rw [List.length_take]; omega
    have h5 := impl_p5 (Gf.impl_Even.p2 k) xs xs (xs.take i) (xs.getD i 0) (xs.length : Int) (i : Int) (by omega) hy (fun y h => hxs y (List.mem_of_mem_take h)) i k 0 (by omega) (by omega)
    rw [List.drop_zero] at h5
    rw [show ((0 : Nat) : Int) = (0 : Int) from rfl] at h5
    rw [h5, wrap64 (by omega) (by omega)]
    have e : (i : Int) + 1 = ((i + 1 : Nat) : Int) := by omega
    have hany : (xs.take i).any (far2 (xs.getD i 0)) = true ↔ ∃ b, b < i ∧ far2 (xs.getD i 0) (xs.getD b 0) = true := by
      rw [List.any_eq_true]
      constructor
      · rintro ⟨y, hy, hf⟩
        obtain ⟨b, hb, rfl⟩ := List.mem_iff_getElem.1 hy
        rw [hl] at hb
        refine ⟨b, hb, ?_⟩
        rw [List.getElem_take] at hf
        rw [List.getD_eq_getElem?_getD (i := b), List.getElem?_eq_getElem (by omega)]
        exact hf
      · rintro ⟨b, hb, hf⟩
        refine ⟨xs.getD b 0, ?_, hf⟩
        rw [List.getD_eq_getElem?_getD, List.getElem?_eq_getElem (by omega)]
        exact List.mem_iff_getElem.2 ⟨b, by rw [hl]; exact hb, by rw [List.getElem_take]; rfl⟩
    by_cases ha : (xs.take i).any (far2 (xs.getD i 0)) = true
    · rw [if_pos ha]
      obtain ⟨b, hb, hf⟩ := hany.1 ha
      exact ⟨false, rfl, by simp; exact ⟨i, Nat.le_refl _, hi, b, hb, hf⟩⟩
    · rw [if_neg ha, e]
      refine ⟨r, hr, hr2.trans ⟨fun ⟨a, b, h1, h2, h3, h4⟩ => ⟨a, b, by omega, h2, h3, h4⟩, fun ⟨a, b, h1, h2, h3, h4⟩ => ⟨a, b, ?_, h2, h3, h4⟩⟩⟩
      by_cases hai : a = i
      · subst hai; exact absurd (hany.2 ⟨b, h3, h4⟩) ha
      · omega
theorem even_same (xs : List Int) (hn : xs.length ≤ 1048576) (hxs : ∀ y, y ∈ xs → In64 y) {k : Nat} (hk : 2 * xs.length + 1 < k) : Gf.impl_Even k xs = some (!(xs.any fun x => xs.any (far x))) := by
  obtain ⟨r, hr, hr2⟩ := impl_p2 xs hn hxs xs.length k 0 (by omega) (by omega)
  have : r = !(xs.any fun x => xs.any (far x)) := by
    have key : (xs.any fun x => xs.any (far x)) = true ↔ ∃ a b, 0 ≤ a ∧ a < xs.length ∧ b < a ∧ far2 (xs.getD a 0) (xs.getD b 0) = true := by
      rw [List.any_eq_true]
      have gd : ∀ {i : Nat} (h : i < xs.length), xs.getD i 0 = xs[i] := fun h => by rw [List.getD_eq_getElem?_getD, List.getElem?_eq_getElem h]; rfl
      constructor
      · rintro ⟨x, hx, hf⟩
        rw [List.any_eq_true] at hf
        obtain ⟨y, hy, hf⟩ := hf
        obtain ⟨a, ha, rfl⟩ := List.mem_iff_getElem.1 hx
        obtain ⟨b, hb, rfl⟩ := List.mem_iff_getElem.1 hy
        simp only [far, Bool.and_eq_true, decide_eq_true_eq] at hf
        rcases Nat.lt_trichotomy a b with h | h | h
        · exact ⟨b, a, by omega, hb, h, by rw [gd ha, gd hb]; simp only [far2, Bool.or_eq_true, decide_eq_true_eq]; omega⟩
        · subst h; omega
        · exact ⟨a, b, by omega, ha, h, by rw [gd ha, gd hb]; simp only [far2, Bool.or_eq_true, decide_eq_true_eq]; omega⟩
      · rintro ⟨a, b, _, ha, hb, hf⟩
        rw [gd ha, gd (by omega : b < xs.length)] at hf
        simp only [far2, Bool.or_eq_true, decide_eq_true_eq] at hf
        rcases hf with h | h
        · exact ⟨xs[a], List.getElem_mem ha, List.any_eq_true.2 ⟨xs[b], List.getElem_mem (by omega), by simp only [far, Bool.and_eq_true, decide_eq_true_eq]; omega⟩⟩
        · exact ⟨xs[b], List.getElem_mem (by omega), List.any_eq_true.2 ⟨xs[a], List.getElem_mem ha, by simp only [far, Bool.and_eq_true, decide_eq_true_eq]; omega⟩⟩
    cases hb : (xs.any fun x => xs.any (far x)) with
    | true => exact hr2.2 (key.1 hb)
    | false =>
      cases r with
      | true => rfl
      | false => rw [key.2 (hr2.1 rfl)] at hb; cases hb
  rw [← this]; exact hr
theorem FnExactEven (xs : List Int) (hxs : ∀ y, y ∈ xs → In64 y) : ∃ k, Gf.laws_FnExactEven k xs = some true := by
  refine ⟨2 * xs.length + 2, ?_⟩
  unfold Gf.laws_FnExactEven
  by_cases h : xs.length > 1048576
  · rw [if_pos (by simp only [decide_eq_true_eq]; omega)]
  · have hn : xs.length ≤ 1048576 := by omega
    rw [if_neg (by simp only [decide_eq_true_eq]; omega), toIntS xs hn (by omega)]
    simp only [Option.bind_some]
    rw [spec_even xs hn hxs (by omega), even_same xs hn hxs (by omega), eqIntS xs hn (by omega)]
    simp
end Pu
