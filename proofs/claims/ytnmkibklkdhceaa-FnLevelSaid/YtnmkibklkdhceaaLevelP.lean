/- The plain law of Level: both functions move from the first that has too much to the first that has too little. -/
import Derived.Test.YtnmkibklkdhceaaGivesP
import Derived.Test.YtnmkibklkdhceaaLevelF
set_option linter.unusedVariables false
set_option linter.unusedSimpArgs false
open Go Go.Ri
namespace Pu
theorem getD_modify (l : List Int) (i j : Nat) (y : Int) (hi : i < l.length) : (l.modify i fun _ => y).getD j 0 = if j = i then y else l.getD j 0 := by
  rw [List.getD_eq_getElem?_getD, List.getElem?_modify, List.getD_eq_getElem?_getD]
  by_cases h : j = i
  · subst h
    rw [if_pos rfl, List.getElem?_eq_getElem hi]
    simp
  · rw [if_neg h]
    cases l[j]? with
    | none => rfl
    | some a => simp [Ne.symm h]

/-! ### the shares -/
def share (a n : Int) (i : Nat) : Int := if (i : Int) < a % n then a / n + 1 else a / n
def shares (a n : Int) : Nat → List Int
  | 0 => [] | i + 1 => shares a n i ++ [share a n i]
theorem shares_length (a n : Int) : ∀ i, (shares a n i).length = i
  | 0 => rfl
  | i + 1 => by rw [shares, List.length_append, shares_length a n i]; rfl
theorem shares_get (a n : Int) : ∀ m i, i < m → (shares a n m).getD i 0 = share a n i
  | 0, _, h => absurd h (Nat.not_lt_zero _)
  | m + 1, i, h => by
    rw [shares, List.getD_eq_getElem?_getD]
    by_cases hi : i < m
    · rw [List.getElem?_append_left (by rw [shares_length]; exact hi), ← List.getD_eq_getElem?_getD]
      exact shares_get a n m i hi
    · have : i = m := by omega
      subst this
      rw [List.getElem?_append_right (by rw [shares_length]; exact Nat.le_refl _), shares_length]
      simp
theorem share_in {a n : Int} (ha : 0 ≤ a) (hn : 1 ≤ n) (i : Nat) : 0 ≤ share a n i ∧ share a n i ≤ a + 1 := by
  have h1 : 0 ≤ a / n := Int.ediv_nonneg ha (by omega)
  have h2 : a / n ≤ a := Int.ediv_le_self n ha
  unfold share
  split <;> omega
theorem spec_spread {a : Int} {n : Nat} (ha : 0 ≤ a) (ha2 : a ≤ 1125899906842624) (h1 : 1 ≤ n) (h4 : n ≤ 4) {k : Nat} (hk : 6 ≤ k) : Gf.spec_Spread k a n = some (shares a n n) := by
  unfold Gf.spec_Spread
  rw [l01Num_same, l01In_same]
  simp only [Option.bind_some]
  have g1 : (decide (0 ≤ a) && decide (a ≤ 1125899906842624)) = true := by simp only [Bool.and_eq_true, decide_eq_true_eq]; omega
  have g2 : (decide ((1 : Int) ≤ (n : Int)) && decide ((n : Int) ≤ 4)) = true := by simp only [Bool.and_eq_true, decide_eq_true_eq]; omega
  rw [g1, g2, if_neg (by simp), if_neg (by simp)]
  have n0 : ((n : Int) != 0) = true := by simp; omega
  refine (rounds (fun k i => Gf.spec_Spread.p5 k a n (i : Int) (shares a n i)) n 1 (fun k i hi _ => ?_) k (by omega)).trans ?_
  · simp only [Gf.spec_Spread.p5]
    have d1 : Int.tdiv a n = a / n := Int.tdiv_eq_ediv_of_nonneg ha
    have d2 : Int.tmod a n = a % n := Int.tmod_eq_emod_of_nonneg ha
    have d3 : 0 ≤ a / n := Int.ediv_nonneg ha (by omega)
    have d4 : a / n ≤ a := Int.ediv_le_self _ ha
    have hr : decide (((shares a n i).length + 1) * 8 ≤ room) = true := by
      simp only [decide_eq_true_eq, shares_length]; unfold room; omega
    rw [if_pos (below hi), if_pos n0, if_pos n0, if_pos hr, if_pos hr, bump hi (by omega), d1, d2, wrap64 (z := a / n) (by omega) (by omega), wrap64 (z := a / n + 1) (by omega) (by omega)]
    simp only [shares, share]
    by_cases h : (i : Int) < a % (n : Int)
    · rw [if_pos (decide_eq_true h), if_pos h]
    · rw [if_neg (by simpa only [decide_eq_true_eq] using h), if_neg h]
  · obtain ⟨j, hj⟩ : ∃ j, k - n = j + 1 := ⟨k - n - 1, by omega⟩
    simp only [hj, Gf.spec_Spread.p5]
    rw [if_neg (notBelow _)]
theorem impl_spread {a : Int} {n : Nat} (ha : 0 ≤ a) (ha2 : a ≤ 1125899906842624) (h1 : 1 ≤ n) (h4 : n ≤ 4) {k : Nat} (hk : 6 ≤ k) : Gf.impl_Spread k a n = some (shares a n n) := by
  obtain ⟨r, h1, h2, _⟩ := spread a n (k := k) (by omega)
  rw [h2, ← h1]
  exact spec_spread ha ha2 (by omega) h4 hk

/-! ### levelling -/
/-- the smallest index below n at which p holds; else what is given -/
def low (p : Nat → Bool) : Nat → Int → Int
  | 0, f => f | n + 1, f => low p n (if p n then n else f)
theorem low_none {p : Nat → Bool} : ∀ {n : Nat} {f : Int}, (∀ j, j < n → p j = false) → low p n f = f
  | 0, _, _ => rfl
  | n + 1, f, h => by rw [low, h n (by omega), if_neg (by simp)]; exact low_none fun j hj => h j (by omega)
theorem low_at {p : Nat → Bool} {i : Nat} (hi : p i = true) (hj : ∀ j, j < i → p j = false) : ∀ {n : Nat} {f : Int}, i < n → low p n f = i
  | 0, _, h => absurd h (Nat.not_lt_zero _)
  | n + 1, f, h => by
    rw [low]
    by_cases hn : n = i
    · subst hn; rw [hi, if_pos rfl]; exact low_none hj
    · exact low_at hi hj (by omega)
theorem low_some {p : Nat → Bool} : ∀ {n : Nat} {f : Int}, low p n f = f ∨ ∃ i, i < n ∧ p i = true ∧ low p n f = (i : Int)
  | 0, _ => .inl rfl
  | n + 1, f => by
    rw [low]
    by_cases h : p n = true
    · rw [if_pos h]
      rcases low_some (p := p) (n := n) (f := (n : Int)) with e | ⟨i, h1, h2, h3⟩
      · exact .inr ⟨n, by omega, h, e⟩
      · exact .inr ⟨i, by omega, h2, h3⟩
    · rw [if_neg h]
      rcases low_some (p := p) (n := n) (f := f) with e | ⟨i, h1, h2, h3⟩
      · exact .inl e
      · exact .inr ⟨i, by omega, h2, h3⟩
def hi (l w : List Int) (j : Nat) : Bool := decide (l.getD j 0 > w.getD j 0)
def lo (l w : List Int) (j : Nat) : Bool := decide (l.getD j 0 < w.getD j 0)
def gift (f t : Nat) (n : Int) : Ev := (1, (f : Int), 0, 3, 0, 0, (t : Int), n, 0, 0, 0, 0)
def amt (l w : List Int) (f t : Nat) : Int := if w.getD t 0 - l.getD t 0 < l.getD f 0 - w.getD f 0 then w.getD t 0 - l.getD t 0 else l.getD f 0 - w.getD f 0
def move (l w : List Int) (f t : Nat) : List Int := (l.modify f fun _ => l.getD f 0 - amt l w f t).modify t fun _ => l.getD t 0 + amt l w f t
/-- what both do -/
def lev (n : Nat) (w : List Int) : Nat → List Int → List Ev → List Ev
  | 0, _, acc => acc
  | d + 1, l, acc => if low (hi l w) n (-1) < 0 then acc else if low (lo l w) n (-1) < 0 then acc else
    lev n w d (move l w (low (hi l w) n (-1)).toNat (low (lo l w) n (-1)).toNat) (acc ++ [gift (low (hi l w) n (-1)).toNat (low (lo l w) n (-1)).toNat (amt l w (low (hi l w) n (-1)).toNat (low (lo l w) n (-1)).toNat)])
def cnt (l w : List Int) : Nat → Nat
  | 0 => 0 | n + 1 => cnt l w n + if l.getD n 0 = w.getD n 0 then 0 else 1
theorem cnt_le {l l' w : List Int} : ∀ {n : Nat}, (∀ j, j < n → l.getD j 0 = w.getD j 0 → l'.getD j 0 = w.getD j 0) → cnt l' w n ≤ cnt l w n
  | 0, _ => Nat.le_refl _
  | n + 1, h => by
    have := cnt_le (n := n) fun j hj => h j (by omega)
    have h2 := h n (by omega)
    simp only [cnt]
    split <;> split <;> first | omega | (exfalso; rename_i a b; exact a (h2 b))
theorem cnt_lt {l l' w : List Int} {i : Nat} (hi : l.getD i 0 ≠ w.getD i 0) (hi' : l'.getD i 0 = w.getD i 0) : ∀ {n : Nat}, i < n → (∀ j, j < n → l.getD j 0 = w.getD j 0 → l'.getD j 0 = w.getD j 0) → cnt l' w n < cnt l w n
  | 0, h, _ => absurd h (Nat.not_lt_zero _)
  | n + 1, hn, h => by
    simp only [cnt]
    by_cases e : n = i
    · subst e
      have := cnt_le (n := n) (l := l) (l' := l') (w := w) fun j hj => h j (by omega)
      rw [if_pos hi', if_neg hi]; omega
    · have := cnt_lt hi hi' (n := n) (by omega) fun j hj => h j (by omega)
      have h2 := h n (by omega)
      split <;> split <;> first | omega | (exfalso; rename_i a b; exact a (h2 b))
theorem cnt_zero {l w : List Int} : ∀ {n : Nat}, cnt l w n = 0 → ∀ j, j < n → l.getD j 0 = w.getD j 0
  | 0, _, _, h => absurd h (Nat.not_lt_zero _)
  | n + 1, h, j, hj => by
    simp only [cnt] at h
    have e : l.getD n 0 = w.getD n 0 := by
      by_cases e : l.getD n 0 = w.getD n 0
      · exact e
      · rw [if_neg e] at h; omega
    by_cases hn : j = n
    · subst hn; exact e
    · exact cnt_zero (n := n) (by omega) j (by omega)
/-- what stays true -/
def Fine (n : Nat) (l w : List Int) : Prop := l.length = n ∧ w.length = n ∧ ∀ j, j < n → (0 ≤ l.getD j 0 ∧ l.getD j 0 ≤ 1125899906842624) ∧ (0 ≤ w.getD j 0 ∧ w.getD j 0 ≤ 1125899906842624)
theorem move_get {n : Nat} {l w : List Int} (h : Fine n l w) {f t : Nat} (hf : f < n) (ht : t < n) (hft : f ≠ t) (j : Nat) : (move l w f t).getD j 0 = if j = t then l.getD t 0 + amt l w f t else if j = f then l.getD f 0 - amt l w f t else l.getD j 0 := by
  unfold move
  rw [getD_modify _ _ _ _ (by rw [List.length_modify, h.1]; exact ht)]
  split
  · rfl
  · exact getD_modify _ _ _ _ (by rw [h.1]; exact hf)
theorem amt_pos {l w : List Int} {f t : Nat} (hf : hi l w f = true) (ht : lo l w t = true) : 0 < amt l w f t ∧ amt l w f t ≤ l.getD f 0 - w.getD f 0 ∧ amt l w f t ≤ w.getD t 0 - l.getD t 0 ∧ (amt l w f t = l.getD f 0 - w.getD f 0 ∨ amt l w f t = w.getD t 0 - l.getD t 0) := by
  simp only [hi, lo, decide_eq_true_eq] at hf ht
  unfold amt
  split <;> refine ⟨by omega, by omega, by omega, by omega⟩
theorem hi_lo_ne {l w : List Int} {f t : Nat} (hf : hi l w f = true) (ht : lo l w t = true) : f ≠ t := by
  rintro rfl
  simp only [hi, lo, decide_eq_true_eq] at hf ht
  omega
theorem move_fine {n : Nat} {l w : List Int} (h : Fine n l w) {f t : Nat} (hf : f < n) (ht : t < n) (kf : hi l w f = true) (kt : lo l w t = true) : Fine n (move l w f t) w ∧ cnt (move l w f t) w n < cnt l w n ∧ (∀ j, hi (move l w f t) w j = true → hi l w j = true) ∧ ∀ j, lo (move l w f t) w j = true → lo l w j = true := by
  have hne := hi_lo_ne kf kt
  obtain ⟨a1, a2, a3, a4⟩ := amt_pos kf kt
  have kf' := kf; have kt' := kt
  simp only [hi, lo, decide_eq_true_eq] at kf' kt'
  have hF := h.2.2 f hf
  have hT := h.2.2 t ht
  have g := fun j => move_get h hf ht hne j
  refine ⟨⟨by unfold move; rw [List.length_modify, List.length_modify, h.1], h.2.1, fun j hj => ⟨?_, (h.2.2 j hj).2⟩⟩, ?_, fun j => ?_, fun j => ?_⟩
  · rw [g j]
    split
    · omega
    · split
      · omega
      · exact (h.2.2 j hj).1
  · rcases a4 with e | e
    · refine cnt_lt (i := f) (by omega) ?_ hf fun j hj he => ?_
      · rw [g f, if_neg hne, if_pos rfl, e]; omega
      · rw [g j]
        split
        · rename_i q; subst q; omega
        · split
          · rename_i q; subst q; omega
          · exact he
    · refine cnt_lt (i := t) (by omega) ?_ ht fun j hj he => ?_
      · rw [g t, if_pos rfl, e]; omega
      · rw [g j]
        split
        · rename_i q; subst q; omega
        · split
          · rename_i q; subst q; omega
          · exact he
  · simp only [hi, decide_eq_true_eq, g j]
    split
    · rename_i q; subst q; omega
    · split
      · rename_i q; subst q; omega
      · exact id
  · simp only [lo, decide_eq_true_eq, g j]
    split
    · rename_i q; subst q; omega
    · split
      · rename_i q; subst q; omega
      · exact id
theorem lev_length (n : Nat) (w : List Int) : ∀ d l acc, (lev n w d l acc).length ≤ acc.length + d
  | 0, _, _ => Nat.le_refl _
  | d + 1, l, acc => by
    unfold lev
    split
    · omega
    · split
      · omega
      · refine Nat.le_trans (lev_length n w d _ _) ?_
        rw [List.length_append]; simp only [List.length_singleton]; omega

/-! ### the program's way -/
theorem scan (n : Nat) (l w : List Int) (h : Fine n l w) (hn : n ≤ 4) (c12 : List Int → List Int → List Ev → Option (List Ev)) (acc : List Ev) : ∀ (m k : Nat) (f t : Int), m ≤ n → m < k →
    Gf.impl_Level.p15 c12 k f t ((m : Int) - 1) w l acc = Gf.impl_Level.p15 c12 (k - m) (low (hi l w) m f) (low (lo l w) m t) (-1) w l acc := by
  intro m
  induction m with
  | zero => intro k f t _ _; rfl
  | succ m ih =>
    intro k f t hm hk
    obtain ⟨k, rfl⟩ : ∃ q, k = q + 1 := ⟨k - 1, by omega⟩
    have e : ((m + 1 : Nat) : Int) - 1 = (m : Int) := by omega
    have ek : k + 1 - (m + 1) = k - m := by omega
    rw [e, ek]
    have g1 : (decide ((0 : Int) ≤ (m : Int)) && decide ((m : Int) < (l.length : Int))) = true := inside (by rw [h.1]; omega)
    have g2 : (decide ((0 : Int) ≤ (m : Int)) && decide ((m : Int) < (w.length : Int))) = true := inside (by rw [h.2.1]; omega)
    have g3 : decide ((m : Int) ≥ 0) = true := by simp
    rw [Gf.impl_Level.p15, if_pos g3]
    simp only [Gf.impl_Level.p19, g1, g2, if_true, Int.toNat_natCast]
    rw [wrap64 (z := (m : Int) - 1) (by omega) (by omega), low, low]
    have ih' := fun f t => ih k f t (by omega) (by omega)
    by_cases h1 : l.getD m 0 > w.getD m 0
    · have h2 : ¬ l.getD m 0 < w.getD m 0 := by omega
      rw [if_pos (decide_eq_true h1), if_neg (by simpa only [decide_eq_true_eq] using h2), ih', if_pos (show hi l w m = true from decide_eq_true h1), if_neg (show ¬ lo l w m = true by simpa only [lo, decide_eq_true_eq] using h2)]
    · rw [if_neg (by simpa only [decide_eq_true_eq] using h1), if_neg (show ¬ hi l w m = true by simpa only [hi, decide_eq_true_eq] using h1)]
      by_cases h2 : l.getD m 0 < w.getD m 0
      · rw [if_pos (decide_eq_true h2), ih', if_pos (show lo l w m = true from decide_eq_true h2)]
      · rw [if_neg (by simpa only [decide_eq_true_eq] using h2), ih', if_neg (show ¬ lo l w m = true by simpa only [lo, decide_eq_true_eq] using h2)]
theorem low_cases {p : Nat → Bool} {n : Nat} : (low p n (-1) < 0 ∧ low p n (-1) = -1) ∨ ∃ i : Nat, i < n ∧ p i = true ∧ low p n (-1) = (i : Int) := by
  rcases low_some (p := p) (n := n) (f := -1) with e | h
  · exact .inl ⟨by omega, e⟩
  · exact .inr h
theorem impl_lev (n : Nat) (w : List Int) (hn : 1 ≤ n) (hn4 : n ≤ 4) : ∀ (d : Nat) (k : Nat) (l : List Int) (acc : List Ev), Fine n l w → cnt l w n ≤ d → d + n + 3 < k → acc.length + d ≤ 1048576 → Gf.impl_Level.p12 k w l acc = some (lev n w d l acc) := by
  intro d
  induction d with
  | zero =>
    intro k l acc h hc hk ha
    obtain ⟨k, rfl⟩ : ∃ q, k = q + 1 := ⟨k - 1, by omega⟩
    simp only [Gf.impl_Level.p12]
    rw [h.1, h.2.1, if_pos (by simp only [decide_eq_true_eq]; omega), wrap64 (by omega) (by omega), scan n l w h hn4 _ acc n k (-1) (-1) (Nat.le_refl _) (by omega)]
    obtain ⟨q, hq⟩ : ∃ q, k - n = q + 1 := ⟨k - n - 1, by omega⟩
    have e := cnt_zero (show cnt l w n = 0 by omega)
    have e1 : low (hi l w) n (-1) = -1 := low_none fun j hj => by simp only [hi, decide_eq_false_iff_not, e j hj]; omega
    rw [hq, Gf.impl_Level.p15, if_neg (by simp), e1, if_pos (by simp)]
    rfl
  | succ d ih =>
    intro k l acc h hc hk ha
    obtain ⟨k, rfl⟩ : ∃ q, k = q + 1 := ⟨k - 1, by omega⟩
    simp only [Gf.impl_Level.p12]
    rw [h.1, h.2.1, if_pos (by simp only [decide_eq_true_eq]; omega), wrap64 (by omega) (by omega), scan n l w h hn4 _ acc n k (-1) (-1) (Nat.le_refl _) (by omega)]
    obtain ⟨q, hq⟩ : ∃ q, k - n = q + 1 := ⟨k - n - 1, by omega⟩
    rw [hq, Gf.impl_Level.p15, if_neg (by simp), lev]
    rcases low_cases (p := hi l w) (n := n) with ⟨c1, c2⟩ | ⟨f, hf, kf, ef⟩
    · rw [if_pos (decide_eq_true c1), if_pos c1]
    · rcases low_cases (p := lo l w) (n := n) with ⟨c1, c2⟩ | ⟨t, ht, kt, et⟩
      · have m1 : ¬ (f : Int) < 0 := by omega
        have n1 : ¬ decide ((f : Int) < 0) = true := by simpa only [decide_eq_true_eq] using m1
        rw [ef, if_neg n1, if_pos (decide_eq_true c1), if_neg m1, if_pos c1]
      · obtain ⟨a1, a2, a3, a4⟩ := amt_pos kf kt
        obtain ⟨hm, hcm, -, -⟩ := move_fine h hf ht kf kt
        have hF := h.2.2 f hf
        have hT := h.2.2 t ht
        have hne := hi_lo_ne kf kt
        have m1 : ¬ (f : Int) < 0 := by omega
        have m2 : ¬ (t : Int) < 0 := by omega
        have n1 : ¬ decide ((f : Int) < 0) = true := by simpa only [decide_eq_true_eq] using m1
        have n2 : ¬ decide ((t : Int) < 0) = true := by simpa only [decide_eq_true_eq] using m2
        rw [ef, et, if_neg n1, if_neg n2, if_neg m1, if_neg m2]
        have g1 : (decide ((0 : Int) ≤ (f : Int)) && decide ((f : Int) < (l.length : Int))) = true := inside (by rw [h.1]; omega)
        have g2 : (decide ((0 : Int) ≤ (f : Int)) && decide ((f : Int) < (w.length : Int))) = true := inside (by rw [h.2.1]; omega)
        have g3 : (decide ((0 : Int) ≤ (t : Int)) && decide ((t : Int) < (l.length : Int))) = true := inside (by rw [h.1]; omega)
        have g4 : (decide ((0 : Int) ≤ (t : Int)) && decide ((t : Int) < (w.length : Int))) = true := inside (by rw [h.2.1]; omega)
        simp only [g1, g2, g3, g4, if_true, Int.toNat_natCast]
        rw [wrap64 (z := w.getD t 0 - l.getD t 0) (by omega) (by omega), wrap64 (z := l.getD f 0 - w.getD f 0) (by omega) (by omega)]
        have ea : (if w.getD t 0 - l.getD t 0 < l.getD f 0 - w.getD f 0 then w.getD t 0 - l.getD t 0 else l.getD f 0 - w.getD f 0) = amt l w f t := rfl
        rw [ea, wrap64 (z := l.getD f 0 - amt l w f t) (by omega) (by omega)]
        have eg : (l.modify f fun _ => l.getD f 0 - amt l w f t).getD t 0 = l.getD t 0 := by
          rw [getD_modify _ _ _ _ (by rw [h.1]; exact hf), if_neg (Ne.symm hne)]
        rw [eg, wrap64 (z := l.getD t 0 + amt l w f t) (by omega) (by omega)]
        simp only [Gf.impl_gift, Option.bind_some]
        rw [if_pos (by simp only [decide_eq_true_eq]; unfold room; omega)]
        exact ih k (move l w f t) _ hm (by omega) (by omega) (by rw [List.length_append]; simp only [List.length_singleton]; omega)

/-! ### the reference's way -/
theorem spec_lev (n : Nat) (w : List Int) (hn4 : n ≤ 4) : ∀ (M K d i m : Nat) (l : List Int) (acc : List Ev), Fine n l w → cnt l w n ≤ d → i ≤ n → m ≤ n → (∀ j, j < i → hi l w j = false) → (∀ j, j < m → lo l w j = false) → d + (n - i) + (n - m) ≤ M → M < K → acc.length + d ≤ 1048576 → Gf.spec_Level.p14 K (i : Int) (m : Int) acc w l = some (lev n w d l acc) := by
  intro M
  induction M with
  | zero =>
    intro K d i m l acc h hc hi' hm' Hi Hm hM hK ha
    obtain ⟨K, rfl⟩ : ∃ q, K = q + 1 := ⟨K - 1, by omega⟩
    have : i = n := by omega
    subst this
    have : d = 0 := by omega
    subst this
    rw [Gf.spec_Level.p14, h.1, if_neg (notBelow _)]
    rfl
  | succ M ih =>
    intro K d i m l acc h hc hi' hm' Hi Hm hM hK ha
    obtain ⟨K, rfl⟩ : ∃ q, K = q + 1 := ⟨K - 1, by omega⟩
    rw [Gf.spec_Level.p14, h.1, h.2.1]
    by_cases q1 : i < n
    · by_cases q2 : m < n
      · have g1 : (decide ((0 : Int) ≤ (i : Int)) && decide ((i : Int) < (n : Int))) = true := inside q1
        have g3 : (decide ((0 : Int) ≤ (m : Int)) && decide ((m : Int) < (n : Int))) = true := inside q2
        rw [if_pos (below q1), if_pos (below q2)]
        simp only [g1, g3, if_true, Int.toNat_natCast]
        by_cases c1 : l.getD i 0 ≤ w.getD i 0
        · rw [if_pos (decide_eq_true c1), bump q1 (by omega)]
          refine ih K d (i + 1) m l acc h hc (by omega) hm' (fun j hj => ?_) Hm (by omega) (by omega) ha
          rcases Nat.lt_succ_iff_lt_or_eq.1 hj with hj | rfl
          · exact Hi j hj
          · simp only [hi, decide_eq_false_iff_not]; omega
        · rw [if_neg (by simpa only [decide_eq_true_eq] using c1)]
          by_cases c2 : l.getD m 0 ≥ w.getD m 0
          · rw [if_pos (decide_eq_true c2), bump q2 (by omega)]
            refine ih K d i (m + 1) l acc h hc hi' (by omega) Hi (fun j hj => ?_) (by omega) (by omega) ha
            rcases Nat.lt_succ_iff_lt_or_eq.1 hj with hj | rfl
            · exact Hm j hj
            · simp only [lo, decide_eq_false_iff_not]; omega
          · rw [if_neg (by simpa only [decide_eq_true_eq] using c2)]
            have kf : hi l w i = true := decide_eq_true (by omega)
            have kt : lo l w m = true := decide_eq_true (by omega)
            have ef := low_at (n := n) (f := -1) kf Hi q1
            have et := low_at (n := n) (f := -1) kt Hm q2
            obtain ⟨a1, a2, a3, a4⟩ := amt_pos kf kt
            obtain ⟨hmv, hcm, k1, k2⟩ := move_fine h q1 q2 kf kt
            have hF := h.2.2 i q1
            have hT := h.2.2 m q2
            have hne := hi_lo_ne kf kt
            have w1 := wrap64 (z := w.getD m 0 - l.getD m 0) (by omega) (by omega)
            have w2 := wrap64 (z := l.getD i 0 - w.getD i 0) (by omega) (by omega)
            simp only [w1, w2]
            obtain ⟨d, rfl⟩ : ∃ q, d = q + 1 := ⟨d - 1, by omega⟩
            have m1 : ¬ (i : Int) < 0 := by omega
            have m2 : ¬ (m : Int) < 0 := by omega
            rw [lev, ef, et, if_neg m1, if_neg m2, Int.toNat_natCast, Int.toNat_natCast]
            have step : ∀ y : Int, y = amt l w i m → Gf.spec_Level.p22 (Gf.spec_Level.p14 K) K (i : Int) (m : Int) y (m : Int) (n : Int) (decide ((m : Int) < (n : Int))) acc w l = some (lev n w d (move l w i m) (acc ++ [gift i m (amt l w i m)])) := by
              rintro y rfl
              simp only [Gf.spec_Level.p22, Gf.spec_l21Give, Option.bind_some, h.1, g1, g3, if_true, Int.toNat_natCast]
              rw [if_pos (by simp only [decide_eq_true_eq]; unfold room; omega), wrap64 (z := l.getD i 0 - amt l w i m) (by omega) (by omega)]
              have eg : (l.modify i fun _ => l.getD i 0 - amt l w i m).getD m 0 = l.getD m 0 := by
                rw [getD_modify _ _ _ _ (by rw [h.1]; exact q1), if_neg (Ne.symm hne)]
              rw [eg, wrap64 (z := l.getD m 0 + amt l w i m) (by omega) (by omega)]
              refine ih K d i m (move l w i m) _ hmv (by omega) hi' hm' (fun j hj => ?_) (fun j hj => ?_) (by omega) (by omega) (by rw [List.length_append]; simp only [List.length_singleton]; omega)
              · cases hv : hi (move l w i m) w j with
                | false => rfl
                | true => exact absurd (k1 j hv) (by rw [Hi j hj]; exact Bool.false_ne_true)
              · cases hv : lo (move l w i m) w j with
                | false => rfl
                | true => exact absurd (k2 j hv) (by rw [Hm j hj]; exact Bool.false_ne_true)
            by_cases c3 : l.getD i 0 - w.getD i 0 > w.getD m 0 - l.getD m 0
            · rw [if_pos (decide_eq_true c3)]
              exact step _ (by unfold amt; rw [if_pos (by omega)])
            · rw [if_neg (by simpa only [decide_eq_true_eq] using c3)]
              exact step _ (by unfold amt; rw [if_neg (by omega)])
      · have : m = n := by omega
        subst this
        rw [if_pos (below q1), if_neg (notBelow _)]
        have e : low (lo l w) m (-1) = -1 := low_none Hm
        cases d with
        | zero => rfl
        | succ d =>
          rw [lev, e]
          simp
    · have : i = n := by omega
      subst this
      rw [if_neg (notBelow _)]
      have e : low (hi l w) i (-1) = -1 := low_none Hi
      cases d with
      | zero => rfl
      | succ d =>
        rw [lev, e]
        simp
theorem cnt_len (l w : List Int) : ∀ n, cnt l w n ≤ n
  | 0 => Nat.le_refl _
  | n + 1 => by have := cnt_len l w n; simp only [cnt]; split <;> omega

/-! ### the checks before -/
def isAmtB (x : Int) : Bool := decide (0 ≤ x) && decide (x ≤ 1000000000)
def levOk (l : List Int) : Prop := (1 ≤ l.length ∧ l.length ≤ 4) ∧ l.all isAmtB = true
theorem sum_bound2 : ∀ (l : List Int), (∀ x, x ∈ l → 0 ≤ x ∧ x ≤ 1000000000) → 0 ≤ l.sum ∧ l.sum ≤ l.length * 1000000000
  | [], _ => by simp
  | x :: l, h => by
    have := sum_bound2 l fun y hy => h y (List.mem_cons_of_mem _ hy)
    have := h x (List.mem_cons_self ..)
    simp only [List.sum_cons, List.length_cons]; omega
theorem fine_shares {l : List Int} (h : levOk l) : (0 ≤ l.sum ∧ l.sum ≤ 4000000000) ∧ Fine l.length l (shares l.sum l.length l.length) := by
  have hm : ∀ x, x ∈ l → 0 ≤ x ∧ x ≤ 1000000000 := fun x hx => by
    have := List.all_eq_true.1 h.2 x hx
    simpa only [isAmtB, Bool.and_eq_true, decide_eq_true_eq] using this
  have hs := sum_bound2 l hm
  have hlen := h.1
  refine ⟨by omega, rfl, shares_length .., fun j hj => ⟨?_, ?_⟩⟩
  · have := hm _ (getD_mem hj); omega
  · rw [shares_get _ _ _ _ hj]
    have := share_in (a := l.sum) (n := (l.length : Int)) hs.1 (by omega) j
    omega
theorem spec_level_ok {l : List Int} (h : levOk l) {k : Nat} (hk : 30 ≤ k) : Gf.spec_Level k l = some (lev l.length (shares l.sum l.length l.length) 4 l []) := by
  obtain ⟨hs, hf⟩ := fine_shares h
  have hlen := h.1
  have hm : ∀ x, x ∈ l → isAmtB x = true := fun x hx => List.all_eq_true.1 h.2 x hx
  have hnum : l.all isNumB = true := List.all_eq_true.2 fun x hx => by
    have := hm x hx
    simp only [isAmtB, isNumB, Bool.and_eq_true, decide_eq_true_eq] at this ⊢
    omega
  unfold Gf.spec_Level
  rw [l21Sum l (by omega), if_pos ⟨hlen.1, hlen.2, hnum⟩]
  simp only [Option.bind_some]
  refine (rounds (fun k i => Gf.spec_Level.p4 k l l.sum true l l.length (i : Int) []) l.length 1 (fun k i hi _ => ?_) k (by omega)).trans ?_
  · simp only [Gf.spec_Level.p4]
    have := hm _ (getD_mem hi)
    simp only [isAmtB, Bool.and_eq_true, decide_eq_true_eq] at this
    rw [if_pos (below hi), if_pos (inside hi), Int.toNat_natCast, if_true, bump hi (by omega), decide_eq_true this.2]
  · obtain ⟨j, hj⟩ : ∃ j, k - l.length = j + 1 := ⟨k - l.length - 1, by omega⟩
    simp only [hj, Gf.spec_Level.p4]
    rw [if_neg (notBelow _), if_neg (by simp), spec_spread hs.1 (by omega) hlen.1 hlen.2 (by omega)]
    simp only [Option.bind_some, List.nil_append]
    rw [if_pos (by simp only [decide_eq_true_eq]; unfold room; omega)]
    have hc := cnt_len l (shares l.sum l.length l.length) l.length
    exact spec_lev l.length _ hlen.2 12 j 4 0 0 l [] hf (by omega) (by omega) (by omega) (fun j hj => absurd hj (Nat.not_lt_zero _)) (fun j hj => absurd hj (Nat.not_lt_zero _)) (by omega) (by omega) (by simp)
theorem all_take {p : Int → Bool} {l : List Int} {i : Nat} (h : i < l.length) : (l.take (i + 1)).all p = ((l.take i).all p && p (l.getD i 0)) := by
  rw [List.take_succ_eq_append_getElem h, List.all_append, List.getD_eq_getElem?_getD, List.getElem?_eq_getElem h]
  simp
theorem spec_level_not {l : List Int} (hl : l.length ≤ 1048576) (h : ¬ levOk l) {k : Nat} (hk : l.length + 30 ≤ k) : Gf.spec_Level k l = some [] := by
  unfold Gf.spec_Level
  rw [l21Sum l (by omega)]
  simp only [Option.bind_some]
  obtain ⟨b, s, hb, e⟩ : ∃ (b : Bool) (s : Int), (b = true → 1 ≤ l.length ∧ l.length ≤ 4 ∧ l.all isNumB = true) ∧ (if 1 ≤ l.length ∧ l.length ≤ 4 ∧ l.all isNumB = true then (l.sum, true) else ((0 : Int), false)) = (s, b) := by
    split
    · rename_i q; exact ⟨true, l.sum, fun _ => q, rfl⟩
    · exact ⟨false, 0, fun q => absurd q Bool.false_ne_true, rfl⟩
  rw [e]
  refine (congrArg (fun b' => Gf.spec_Level.p4 k l s b' l l.length 0 []) (show b = (b && (l.take 0).all fun x => decide (x ≤ 1000000000)) by simp)).trans ?_
  refine (rounds (fun k i => Gf.spec_Level.p4 k l s (b && (l.take i).all fun x => decide (x ≤ 1000000000)) l l.length (i : Int) []) l.length 1 (fun k i hi _ => ?_) k (by omega)).trans ?_
  · simp only [Gf.spec_Level.p4]
    rw [if_pos (below hi), if_pos (inside hi), Int.toNat_natCast, bump hi (by omega), all_take hi, ← Bool.and_assoc]
    cases hv : (b && (l.take i).all fun x => decide (x ≤ 1000000000)) with
    | true => rw [if_pos rfl, Bool.true_and]
    | false => rw [if_neg Bool.false_ne_true, Bool.false_and]
  · obtain ⟨j, hj⟩ : ∃ j, k - l.length = j + 1 := ⟨k - l.length - 1, by omega⟩
    simp only [hj, Gf.spec_Level.p4]
    have hv : (b && (l.take l.length).all fun x => decide (x ≤ 1000000000)) = false := by
      rw [List.take_of_length_le (Nat.le_refl _)]
      refine Bool.eq_false_iff.2 fun hh => h ?_
      rw [Bool.and_eq_true] at hh
      obtain ⟨q1, q2, q3⟩ := hb hh.1
      refine ⟨⟨q1, q2⟩, List.all_eq_true.2 fun x hx => ?_⟩
      have := List.all_eq_true.1 q3 x hx
      have := List.all_eq_true.1 hh.2 x hx
      simp only [isAmtB, isNumB, Bool.and_eq_true, decide_eq_true_eq] at *
      omega
    rw [if_neg (notBelow _), hv]
    rfl
theorem nums_take2 {l : List Int} {i : Nat} (h : ∀ j, j < i → isAmtB (l.getD j 0) = true) : ∀ x, x ∈ l.take i → 0 ≤ x ∧ x ≤ 1000000000 := by
  intro x hx
  obtain ⟨j, hj, rfl⟩ := List.mem_iff_getElem.1 hx
  rw [List.length_take] at hj
  have := h j (by omega)
  rw [List.getD_eq_getElem?_getD, List.getElem?_eq_getElem (by omega)] at this
  simpa only [isAmtB, Option.getD_some, Bool.and_eq_true, decide_eq_true_eq, List.getElem_take] using this
theorem level_p3 (l : List Int) (hl : l.length ≤ 1048576) : ∀ (d k i : Nat), i + d = l.length → d < k → i ≤ 4 → (∀ j, j < i → isAmtB (l.getD j 0) = true) → Gf.impl_Level.p3 k l (l.take i).sum l l.length i = if l.length ≤ 4 ∧ (l.drop i).all isAmtB = true then Gf.impl_Level.p3 (k - d) l l.sum l l.length l.length else some [] := by
  intro d
  induction d with
  | zero =>
    intro k i hd hk h4 hj
    have : i = l.length := by omega
    subst this
    rw [List.take_of_length_le (Nat.le_refl _), List.drop_eq_nil_of_le (Nat.le_refl _), if_pos ⟨h4, rfl⟩]
    rfl
  | succ d ih =>
    intro k i hd hk h4 hj
    obtain ⟨k, rfl⟩ : ∃ m, k = m + 1 := ⟨k - 1, by omega⟩
    have hi : i < l.length := by omega
    have e : k + 1 - (d + 1) = k - d := by omega
    rw [e]
    rw [Gf.impl_Level.p3]
    rw [if_pos (below hi), if_pos (inside hi), Int.toNat_natCast]
    by_cases h5 : i = 4
    · rw [if_pos (by simp only [decide_eq_true_eq]; omega), if_neg fun h => by omega]
    · rw [if_neg (by simp only [decide_eq_true_eq]; omega), in_same]
      simp only [Option.bind_some]
      rw [drop_cons hi, List.all_cons]
      by_cases h : isAmtB (l.getD i 0) = true
      · have h' : (decide (0 ≤ l.getD i 0) && decide (l.getD i 0 ≤ 1000000000)) = true := h
        have hb := sum_bound2 _ (nums_take2 hj)
        have hlen : ((l.take i).length : Int) ≤ 4 := by rw [List.length_take]; omega
        rw [h', if_neg (by simp), bump hi (by omega), h, Bool.true_and]
        simp only [Bool.and_eq_true, decide_eq_true_eq] at h'
        rw [wrap64 (by omega) (by omega), ← take_sum hi]
        exact ih k (i + 1) (by omega) (by omega) (by omega) fun j hj' => by
          rcases Nat.lt_succ_iff_lt_or_eq.1 hj' with hj' | rfl
          · exact hj j hj'
          · exact h
      · have h' : ¬ (decide (0 ≤ l.getD i 0) && decide (l.getD i 0 ≤ 1000000000)) = true := h
        rw [Bool.eq_false_iff.2 h', Bool.eq_false_iff.2 h, if_pos (by rfl), if_neg (by simp)]
theorem impl_level_ok {l : List Int} (h : levOk l) {k : Nat} (hk : 40 ≤ k) : Gf.impl_Level k l = some (lev l.length (shares l.sum l.length l.length) 4 l []) := by
  obtain ⟨hs, hf⟩ := fine_shares h
  have hlen := h.1
  unfold Gf.impl_Level
  have e := level_p3 l (by omega) l.length k 0 (by omega) (by omega) (by omega) (fun j hj => absurd hj (Nat.not_lt_zero _))
  refine (show _ = _ from e).trans ?_
  rw [List.drop_zero, if_pos ⟨hlen.2, h.2⟩]
  obtain ⟨j, hj⟩ : ∃ j, k - l.length = j + 1 := ⟨k - l.length - 1, by omega⟩
  rw [hj, Gf.impl_Level.p3, if_neg (notBelow _), impl_spread hs.1 (by omega) hlen.1 hlen.2 (by omega)]
  simp only [Option.bind_some, Gf.impl_copyInts]
  have hc := cnt_len l (shares l.sum l.length l.length) l.length
  exact impl_lev l.length _ hlen.1 hlen.2 4 j l [] hf (by omega) (by omega) (by simp)
theorem impl_level_not {l : List Int} (hl : l.length ≤ 1048576) (h : ¬ levOk l) {k : Nat} (hk : l.length + 30 ≤ k) : Gf.impl_Level k l = some [] := by
  unfold Gf.impl_Level
  have e := level_p3 l (by omega) l.length k 0 (by omega) (by omega) (by omega) (fun j hj => absurd hj (Nat.not_lt_zero _))
  refine (show _ = _ from e).trans ?_
  rw [List.drop_zero]
  by_cases h1 : l.length ≤ 4 ∧ l.all isAmtB = true
  · have h0 : l.length = 0 := Decidable.byContradiction fun h0 => h ⟨⟨by omega, h1.1⟩, h1.2⟩
    have : l = [] := List.eq_nil_of_length_eq_zero h0
    subst this
    obtain ⟨j, hj⟩ : ∃ j, k = j + 2 := ⟨k - 2, by simp at hk; omega⟩
    subst hj
    rw [if_pos h1]
    show Gf.impl_Level.p3 (j + 1 + 1) [] 0 [] 0 0 = _
    rw [Gf.impl_Level.p3, if_neg (by simp)]
    have : Gf.impl_Spread (j + 1) 0 ((([] : List Int).length : Nat) : Int) = some [] := by
      unfold Gf.impl_Spread
      rw [isNum_same, isChoice_same]
      rfl
    rw [this]
    simp only [Option.bind_some, Gf.impl_copyInts, Gf.impl_Level.p12]
    rfl
  · rw [if_neg h1]
theorem FnExactLevel (l : List Int) (_ : ∀ y, y ∈ l → In64 y) : ∃ k, Gf.laws_FnExactLevel k l = some true := by
  refine ⟨l.length + 50, ?_⟩
  unfold Gf.laws_FnExactLevel
  by_cases hbig : l.length > 1048576
  · rw [if_pos (by simp only [decide_eq_true_eq]; omega)]
  · have hlen : l.length ≤ 1048576 := by omega
    obtain ⟨r, hr, h1, h2⟩ : ∃ r, r.length ≤ 4 ∧ Gf.spec_Level (l.length + 50) l = some r ∧ Gf.impl_Level (l.length + 50) l = some r := by
      by_cases h : levOk l
      · exact ⟨_, by have := lev_length l.length (shares l.sum l.length l.length) 4 l []; simp at this ⊢; omega, spec_level_ok h (by omega), impl_level_ok h (by omega)⟩
      · exact ⟨[], by simp, spec_level_not hlen h (by omega), impl_level_not hlen h (by omega)⟩
    rw [if_neg (by simp only [decide_eq_true_eq]; omega), toIntS l hlen (by omega)]
    simp only [Option.bind_some]
    rw [h1, h2]
    simp only [Option.bind_some]
    rw [eqEventS _ (by omega) (by omega), eqIntS l hlen (by omega), mark l 1 (by omega) (by omega) (by omega) (by omega), markEventS _ 1 (by omega) (by omega) (by omega) (by omega)]
    simp only [Option.bind_some]
    rw [heldEventS _ 1 (by omega) (by omega) (by omega) (by omega)]
    simp only [Option.bind_some]
    rw [if_neg (by simp), if_neg (by simp), if_neg (by simp only [decide_eq_true_eq]; omega), if_neg (by simp), if_neg (by simp only [decide_eq_true_eq]; omega), if_neg (by simp), if_neg (by simp), if_neg (by simp only [decide_eq_true_eq]; omega), if_neg (by simp)]
end Pu
