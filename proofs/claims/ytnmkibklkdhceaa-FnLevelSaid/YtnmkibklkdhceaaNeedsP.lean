/- The plain law of Needs: both functions take from who has most. -/
import Derived.Test.YtnmkibklkdhceaaSpreadP
import Derived.Test.YtnmkibklkdhceaaNeedsF
set_option linter.unusedVariables false
open Go Go.Ri
namespace Pu
/-- from some k on, the function answers r -/
def Gv {α : Type} (f : Nat → Option α) (r : α) : Prop := ∃ K, ∀ k, K ≤ k → f k = some r
/-- from some k on, both answer alike -/
def Gvs {α : Type} (f g : Nat → Option α) (p : α → Prop) : Prop := ∃ r, p r ∧ Gv f r ∧ Gv g r

/-! ### both loops are one -/
theorem min_same (a b : Int) : (if a < b then a else b) = if a > b then b else a := by
  split <;> split <;> omega
/-- a guard that stands in two places -/
theorem needs_p19 (c8 : Int → List Int → List Int → Option (List Int × Bool)) (c15 : Int → List Int → List Int → Option (List Int × Bool)) (h : ∀ m a b, c8 m a b = c15 m b a) (k : Nat) (m b : Int) (l o : List Int) :
    (if (decide ((0 : Int) ≤ b) && decide (b < (↑(List.length l) : Int))) = true then if decide (List.getD l (Int.toNat b) (0 : Int) > m) = true then (Gf.spec_Needs.p19 c8 k) m b m l o else (Gf.spec_Needs.p19 c8 k) m b (List.getD l (Int.toNat b) (0 : Int)) l o else none) =
    if (decide ((0 : Int) ≤ b) && decide (b < (↑(List.length l) : Int))) = true then if (decide ((0 : Int) ≤ b) && decide (b < (↑(List.length o) : Int))) = true then c15 (IntKind.wrap IntKind.i64 (m - if List.getD l (Int.toNat b) (0 : Int) < m then List.getD l (Int.toNat b) (0 : Int) else m)) (List.modify o (Int.toNat b) fun (x : Int) => IntKind.wrap IntKind.i64 (List.getD o (Int.toNat b) (0 : Int) + if List.getD l (Int.toNat b) (0 : Int) < m then List.getD l (Int.toNat b) (0 : Int) else m)) (List.modify l (Int.toNat b) fun (x : Int) => IntKind.wrap IntKind.i64 (List.getD l (Int.toNat b) (0 : Int) - if List.getD l (Int.toNat b) (0 : Int) < m then List.getD l (Int.toNat b) (0 : Int) else m)) else none else none := by
  have e : (if List.getD l (Int.toNat b) (0 : Int) < m then List.getD l (Int.toNat b) (0 : Int) else m) = if List.getD l (Int.toNat b) (0 : Int) > m then m else List.getD l (Int.toNat b) (0 : Int) := min_same _ _
  rw [e]
  simp only [Gf.spec_Needs.p19, h]
  by_cases h1 : (decide ((0 : Int) ≤ b) && decide (b < (↑(List.length l) : Int))) = true
  · simp only [h1, if_true]
    by_cases h2 : (decide ((0 : Int) ≤ b) && decide (b < (↑(List.length o) : Int))) = true
    · simp only [h2, if_true]
      by_cases h3 : List.getD l (Int.toNat b) (0 : Int) > m
      · rw [if_pos (decide_eq_true h3), if_pos h3]
      · rw [if_neg (by simpa only [decide_eq_true_eq] using h3), if_neg h3]
    · simp [h2]
  · simp [h1]
theorem needs_inner (c8 : Int → List Int → List Int → Option (List Int × Bool)) (c15 : Int → List Int → List Int → Option (List Int × Bool)) (h : ∀ m a b, c8 m a b = c15 m b a) : ∀ (k : Nat) (m b n i : Int) (l o : List Int), Gf.spec_Needs.p11 c8 k m b n i l o = Gf.impl_Needs.p18 c15 k m b n i o l
  | 0, _, _, _, _, _, _ => rfl
  | k + 1, m, b, n, i, l, o => by
    simp only [Gf.spec_Needs.p11, Gf.impl_Needs.p18]
    rw [needs_inner c8 c15 h k, needs_inner c8 c15 h k, needs_p19 c8 c15 h]
    by_cases h1 : (decide ((0 : Int) ≤ b) && decide (b < (↑(List.length l) : Int))) = true
    · by_cases h2 : (decide ((0 : Int) ≤ b) && decide (b < (↑(List.length o) : Int))) = true
      · simp only [h1, h2, if_true]
      · simp [h1, h2]
    · simp [h1]
theorem needs_outer : ∀ (k : Nat) (m : Int) (l o : List Int), Gf.spec_Needs.p8 k m l o = Gf.impl_Needs.p15 k m o l
  | 0, _, _, _ => rfl
  | k + 1, m, l, o => by
    simp only [Gf.spec_Needs.p8, Gf.impl_Needs.p15]
    rw [needs_inner (Gf.spec_Needs.p8 k) (Gf.impl_Needs.p15 k) (fun m a b => needs_outer k m a b)]

/-! ### it ends -/
def nums (l : List Int) : Prop := ∀ x, x ∈ l → 0 ≤ x ∧ x ≤ 1125899906842624
theorem needs_most (m : Int) (l o : List Int) (hl : l.length ≤ 4) : ∀ (d i b : Nat), i + d = l.length → b < l.length → (∀ j, j < i → l.getD j 0 ≤ l.getD b 0) →
    ∃ (b' : Nat), b' < l.length ∧ (∀ j, j < l.length → l.getD j 0 ≤ l.getD b' 0) ∧ ∀ (c8 : Int → List Int → List Int → Option (List Int × Bool)) (k : Nat), d < k → Gf.spec_Needs.p11 c8 k m b l.length i l o = if decide (l.getD b' 0 > m) = true then Gf.spec_Needs.p19 c8 0 m b' m l o else Gf.spec_Needs.p19 c8 0 m b' (l.getD b' 0) l o := by
  intro d
  induction d with
  | zero =>
    intro i b hd hb hm
    refine ⟨b, hb, fun j hj => hm j (by omega), fun c8 k hk => ?_⟩
    obtain ⟨k, rfl⟩ : ∃ m, k = m + 1 := ⟨k - 1, by omega⟩
    simp only [Gf.spec_Needs.p11]
    rw [if_neg (by simp only [decide_eq_true_eq]; omega), if_pos (by simp only [Bool.and_eq_true, decide_eq_true_eq]; omega), Int.toNat_natCast]
    rfl
  | succ d ih =>
    intro i b hd hb hm
    have step : ∀ (c8 : Int → List Int → List Int → Option (List Int × Bool)) (k : Nat), d + 1 < k → Gf.spec_Needs.p11 c8 k m b l.length i l o = if l.getD i 0 > l.getD b 0 then Gf.spec_Needs.p11 c8 (k - 1) m i l.length (i + 1 : Nat) l o else Gf.spec_Needs.p11 c8 (k - 1) m b l.length (i + 1 : Nat) l o := fun c8 k hk => by
      obtain ⟨k, rfl⟩ : ∃ m, k = m + 1 := ⟨k - 1, by omega⟩
      simp only [Gf.spec_Needs.p11]
      rw [if_pos (by simp only [decide_eq_true_eq]; omega), if_pos (by simp only [Bool.and_eq_true, decide_eq_true_eq]; omega), if_pos (by simp only [Bool.and_eq_true, decide_eq_true_eq]; omega), Int.toNat_natCast, Int.toNat_natCast, bump (n := l.length) (by omega) (by omega)]
      by_cases h : l.getD i 0 > l.getD b 0
      · rw [if_pos (decide_eq_true h), if_pos h]; rfl
      · rw [if_neg (by simpa only [decide_eq_true_eq] using h), if_neg h]; rfl
    by_cases h : l.getD i 0 > l.getD b 0
    · obtain ⟨b', h1, h2, h4⟩ := ih (i + 1) i (by omega) (by omega) (fun j hj => by
        rcases Nat.lt_succ_iff_lt_or_eq.1 hj with hj | rfl
        · have := hm j hj; omega
        · exact Int.le_refl _)
      exact ⟨b', h1, h2, fun c8 k hk => by rw [step c8 k hk, if_pos h]; exact h4 c8 (k - 1) (by omega)⟩
    · obtain ⟨b', h1, h2, h4⟩ := ih (i + 1) b (by omega) (by omega) (fun j hj => by
        rcases Nat.lt_succ_iff_lt_or_eq.1 hj with hj | rfl
        · exact hm j hj
        · omega)
      exact ⟨b', h1, h2, fun c8 k hk => by rw [step c8 k hk, if_neg h]; exact h4 c8 (k - 1) (by omega)⟩
theorem sum_modify : ∀ (l : List Int) (i : Nat) (y : Int), i < l.length → (l.modify i fun _ => y).sum = l.sum - l.getD i 0 + y
  | [], _, _, h => absurd h (Nat.not_lt_zero _)
  | x :: l, 0, y, _ => by simp; omega
  | x :: l, i + 1, y, h => by
    have := sum_modify l i y (by simpa using h)
    simp only [List.modify_succ_cons, List.sum_cons, List.getD_cons_succ, this]; omega
theorem mem_modify {l : List Int} {i : Nat} {y x : Int} (h : x ∈ l.modify i fun _ => y) : x ∈ l ∨ x = y := by
  obtain ⟨j, hj, rfl⟩ := List.mem_iff_getElem.1 h
  rw [List.getElem_modify]
  split
  · exact .inr rfl
  · exact .inl (List.getElem_mem _)
theorem sum_le_zero : ∀ (l : List Int), (∀ x, x ∈ l → x ≤ 0) → l.sum ≤ 0
  | [], _ => by simp
  | x :: l, h => by
    have := sum_le_zero l fun y hy => h y (List.mem_cons_of_mem _ hy)
    have := h x (List.mem_cons_self ..)
    rw [List.sum_cons]; omega
theorem needs_ends (len : Nat) (hlen : len ≤ 4) : ∀ (d : Nat) (m : Int) (l o : List Int), m ≤ d → m ≤ 1125899906842624 → l.length = len → o.length = len → nums l → m ≤ l.sum → ∃ r : List Int, r.length = len ∧ ∀ k, d + 8 < k → Gf.spec_Needs.p8 k m l o = some (r, true) := by
  intro d
  induction d with
  | zero =>
    intro m l o hm hm2 hl ho hn hs
    refine ⟨o, ho, fun k hk => ?_⟩
    obtain ⟨k, rfl⟩ : ∃ m, k = m + 1 := ⟨k - 1, by omega⟩
    simp only [Gf.spec_Needs.p8]
    rw [if_neg (by simp only [decide_eq_true_eq]; omega)]
  | succ d ih =>
    intro m l o hm hm2 hl ho hn hs
    by_cases hp : m > 0
    · have hl0 : 0 < l.length := by
        rcases l with _ | ⟨x, l⟩
        · simp at hs; omega
        · simp
      obtain ⟨b, hb, hmost, e⟩ := needs_most m l o (by omega) l.length 0 0 (by omega) hl0 (fun j hj => absurd hj (Nat.not_lt_zero _))
      have hbp : 0 < l.getD b 0 := by
        refine Int.not_le.1 fun hb0 => ?_
        have := sum_le_zero l fun x hx => by
          obtain ⟨j, hj, rfl⟩ := List.mem_iff_getElem.1 hx
          have := hmost j hj
          rw [List.getD_eq_getElem?_getD, List.getElem?_eq_getElem hj] at this
          simp only [Option.getD_some] at this
          omega
        omega
      have hbn := hn _ (getD_mem hb)
      have step : ∀ n : Int, 0 < n → n ≤ m → n ≤ l.getD b 0 → ∃ r : List Int, r.length = len ∧ ∀ k, d + 8 < k → Gf.spec_Needs.p19 (Gf.spec_Needs.p8 k) 0 m b n l o = some (r, true) := by
        intro n hn0 hnm hnb
        obtain ⟨r, hr, h⟩ := ih (m - n) (l.modify b fun _ => l.getD b 0 - n) (o.modify b fun _ => IntKind.wrap IntKind.i64 (List.getD o b (0 : Int) + n)) (by omega) (by omega) (by rw [List.length_modify]; exact hl) (by rw [List.length_modify]; exact ho) (by
          intro x hx
          rcases mem_modify hx with hx | rfl
          · exact hn x hx
          · omega) (by rw [sum_modify _ _ _ hb]; omega)
        refine ⟨r, hr, fun k hk => ?_⟩
        simp only [Gf.spec_Needs.p19]
        have g1 : (decide ((0 : Int) ≤ (b : Int)) && decide ((b : Int) < (↑(List.length l) : Int))) = true := by simp only [Bool.and_eq_true, decide_eq_true_eq]; omega
        have g2 : (decide ((0 : Int) ≤ (b : Int)) && decide ((b : Int) < (↑(List.length o) : Int))) = true := by simp only [Bool.and_eq_true, decide_eq_true_eq]; omega
        simp only [g1, g2, if_true, Int.toNat_natCast]
        rw [wrap64 (z := m - n) (by omega) (by omega), wrap64 (z := l.getD b 0 - n) (by omega) (by omega)]
        exact h k hk
      have p8 : ∀ k, d + 1 + 8 < k → Gf.spec_Needs.p8 k m l o = if decide (l.getD b 0 > m) = true then Gf.spec_Needs.p19 (Gf.spec_Needs.p8 (k - 1)) 0 m b m l o else Gf.spec_Needs.p19 (Gf.spec_Needs.p8 (k - 1)) 0 m b (l.getD b 0) l o := fun k hk => by
        obtain ⟨k, rfl⟩ : ∃ m, k = m + 1 := ⟨k - 1, by omega⟩
        simp only [Gf.spec_Needs.p8]
        rw [if_pos (decide_eq_true hp)]
        exact e (Gf.spec_Needs.p8 k) k (by omega)
      by_cases hbm : l.getD b 0 > m
      · obtain ⟨r, hr, h⟩ := step m hp (Int.le_refl _) (by omega)
        exact ⟨r, hr, fun k hk => by rw [p8 k hk, if_pos (decide_eq_true hbm)]; exact h (k - 1) (by omega)⟩
      · obtain ⟨r, hr, h⟩ := step _ hbp (by omega) (Int.le_refl _)
        exact ⟨r, hr, fun k hk => by rw [p8 k hk, if_neg (by simpa only [decide_eq_true_eq] using hbm)]; exact h (k - 1) (by omega)⟩
    · refine ⟨o, ho, fun k hk => ?_⟩
      obtain ⟨k, rfl⟩ : ∃ m, k = m + 1 := ⟨k - 1, by omega⟩
      simp only [Gf.spec_Needs.p8]
      rw [if_neg (by simpa only [decide_eq_true_eq] using hp)]

/-! ### the checks before -/
theorem sum_bound : ∀ (l : List Int), nums l → 0 ≤ l.sum ∧ l.sum ≤ l.length * 1125899906842624
  | [], _ => by simp
  | x :: l, h => by
    have := sum_bound l fun y hy => h y (List.mem_cons_of_mem _ hy)
    have := h x (List.mem_cons_self ..)
    simp only [List.sum_cons, List.length_cons]; omega
def isNumB (x : Int) : Bool := decide (0 ≤ x) && decide (x ≤ 1125899906842624)
theorem nums_take {l : List Int} {i : Nat} (h : ∀ j, j < i → isNumB (l.getD j 0) = true) : nums (l.take i) := by
  intro x hx
  obtain ⟨j, hj, rfl⟩ := List.mem_iff_getElem.1 hx
  rw [List.length_take] at hj
  have := h j (by omega)
  rw [List.getD_eq_getElem?_getD, List.getElem?_eq_getElem (by omega)] at this
  simpa only [isNumB, Option.getD_some, Bool.and_eq_true, decide_eq_true_eq, List.getElem_take] using this
theorem take_sum {l : List Int} {i : Nat} (h : i < l.length) : (l.take (i + 1)).sum = (l.take i).sum + l.getD i 0 := by
  rw [List.take_succ_eq_append_getElem h, List.sum_append, List.getD_eq_getElem?_getD, List.getElem?_eq_getElem h]
  simp
theorem l21Sum_p (l : List Int) (hl : l.length ≤ 4) : ∀ (d k i : Nat), i + d = l.length → d < k → (∀ j, j < i → isNumB (l.getD j 0) = true) → Gf.spec_l21Sum.p5 k (l.take i).sum l l.length i = some (if (l.drop i).all isNumB = true then (l.sum, true) else (0, false)) := by
  intro d
  induction d with
  | zero =>
    intro k i hd hk hj
    obtain ⟨k, rfl⟩ : ∃ m, k = m + 1 := ⟨k - 1, by omega⟩
    simp only [Gf.spec_l21Sum.p5]
    rw [if_neg (by simp only [decide_eq_true_eq]; omega), List.drop_eq_nil_of_le (by omega), List.take_of_length_le (by omega)]
    rfl
  | succ d ih =>
    intro k i hd hk hj
    obtain ⟨k, rfl⟩ : ∃ m, k = m + 1 := ⟨k - 1, by omega⟩
    have hi : i < l.length := by omega
    simp only [Gf.spec_l21Sum.p5]
    rw [if_pos (by simp only [decide_eq_true_eq]; omega), if_pos (by simp only [Bool.and_eq_true, decide_eq_true_eq]; omega), Int.toNat_natCast, l01Num_same, drop_cons hi, List.all_cons]
    simp only [Option.bind_some]
    by_cases h : isNumB (l.getD i 0) = true
    · have h' : (decide (0 ≤ l.getD i 0) && decide (l.getD i 0 ≤ 1125899906842624)) = true := h
      have hb := sum_bound _ (nums_take hj)
      have hlen : ((l.take i).length : Int) ≤ 4 := by rw [List.length_take]; omega
      rw [h', if_neg (by simp), bump (n := l.length) hi (by omega), h, Bool.true_and]
      simp only [Bool.and_eq_true, decide_eq_true_eq] at h'
      rw [wrap64 (by omega) (by omega), ← take_sum hi]
      exact ih k (i + 1) (by omega) (by omega) fun j hj' => by
        rcases Nat.lt_succ_iff_lt_or_eq.1 hj' with hj' | rfl
        · exact hj j hj'
        · exact h
    · have h' : ¬ (decide (0 ≤ l.getD i 0) && decide (l.getD i 0 ≤ 1125899906842624)) = true := h
      rw [Bool.eq_false_iff.2 h', Bool.eq_false_iff.2 h, if_pos (by rfl), if_neg (by simp)]
theorem l21Sum (l : List Int) {k : Nat} (hk : 5 ≤ k) : Gf.spec_l21Sum k l = some (if 1 ≤ l.length ∧ l.length ≤ 4 ∧ l.all isNumB = true then (l.sum, true) else (0, false)) := by
  unfold Gf.spec_l21Sum
  rw [l01In_same]
  simp only [Option.bind_some]
  by_cases h : 1 ≤ l.length ∧ l.length ≤ 4
  · rw [if_neg (by simp only [Bool.not_eq_true', Bool.and_eq_false_iff, decide_eq_false_iff_not]; omega)]
    have := l21Sum_p l h.2 l.length k 0 (by omega) (by omega) (fun j hj => absurd hj (Nat.not_lt_zero _))
    simp only [List.take_zero, List.sum_nil, List.drop_zero] at this
    refine Eq.trans this ?_
    by_cases h2 : l.all isNumB = true
    · rw [if_pos h2, if_pos ⟨h.1, h.2, h2⟩]
    · rw [if_neg h2, if_neg fun hh => h2 hh.2.2]
  · rw [if_pos (by simp only [Bool.not_eq_true', Bool.and_eq_false_iff, decide_eq_false_iff_not]; omega), if_neg fun hh => h ⟨hh.1, hh.2.1⟩]
/-- what both check first -/
def needsOk (l : List Int) (to want : Int) : Prop := (1 ≤ l.length ∧ l.length ≤ 4 ∧ l.all isNumB = true) ∧ (0 ≤ to ∧ to < l.length) ∧ isNumB want = true ∧ want ≤ l.sum ∧ l.getD to.toNat 0 ≤ want
theorem needs_spec {l : List Int} {to want : Int} (h : needsOk l to want) : ∃ r : List Int, r.length = l.length ∧ Gv (fun k => Gf.spec_Needs k l to want) (r, true) := by
  obtain ⟨hl, ht, hw, hs, hb⟩ := h
  have hw2 := hw
  simp only [isNumB, Bool.and_eq_true, decide_eq_true_eq] at hw2
  have hn : nums l := fun x hx => by
    have := List.all_eq_true.1 hl.2.2 x hx
    simpa only [isNumB, Bool.and_eq_true, decide_eq_true_eq] using this
  obtain ⟨t, rfl⟩ : ∃ t : Nat, to = t := ⟨to.toNat, by omega⟩
  rw [Int.toNat_natCast] at hb
  have hg := hn _ (getD_mem (xs := l) (i := t) (by omega))
  have hsum : (l.modify t fun _ => 0).sum = l.sum - l.getD t 0 + 0 := sum_modify _ _ _ (by omega)
  obtain ⟨r, hr, key⟩ : ∃ r : List Int, r.length = l.length ∧ ∀ k, 1125899906842624 + 8 < k → Gf.spec_Needs.p8 k (want - l.getD t 0) (l.modify t fun _ => 0) (List.replicate l.length 0) = some (r, true) := by
    refine needs_ends l.length hl.2.1 1125899906842624 _ _ _ (by omega) (by omega) (by rw [List.length_modify]) (by rw [List.length_replicate]) ?_ (by rw [hsum]; omega)
    intro x hx
    rcases mem_modify hx with hx | rfl
    · exact hn x hx
    · omega
  have e : ∀ k, 5 ≤ k → Gf.spec_Needs k l t want = Gf.spec_Needs.p8 k (want - l.getD t 0) (l.modify t fun _ => 0) (List.replicate l.length 0) := fun k hk => by
    unfold Gf.spec_Needs
    rw [l21Sum l hk, if_pos hl, l01In_same, l01Num_same]
    simp only [Option.bind_some, Int.toNat_natCast]
    rw [wrap64 (z := (l.length : Int) - 1) (by omega) (by omega)]
    have g1 : (decide ((0 : Int) ≤ (t : Int)) && decide ((t : Int) ≤ (l.length : Int) - 1)) = true := by simp only [Bool.and_eq_true, decide_eq_true_eq]; omega
    have g2 : (decide ((0 : Int) ≤ want) && decide (want ≤ 1125899906842624)) = true := hw
    have g3 : (decide ((0 : Int) ≤ (t : Int)) && decide ((t : Int) < (l.length : Int))) = true := by simp only [Bool.and_eq_true, decide_eq_true_eq]; omega
    have g4 : (decide ((0 : Int) ≤ (t : Int)) && decide ((t : Int) < (↑(Nat.add 0 l.length) : Int))) = true := by
      have : Nat.add 0 l.length = l.length := Nat.zero_add _
      rw [this]; exact g3
    rw [g1, g2, g3, g4]
    have hroom : l.length * 8 ≤ room := by unfold room; omega
    rw [if_neg (by simp), if_neg (by simp), if_neg (by simp), if_neg (by simp only [decide_eq_true_eq]; omega), if_pos rfl, if_neg (by simp only [decide_eq_true_eq]; omega), if_pos (by rw [Nat.zero_add]; exact decide_eq_true hroom), if_pos (by simp only [Bool.and_eq_true, decide_eq_true_eq]; exact ⟨by omega, hroom⟩), if_pos rfl, if_pos rfl, wrap64 (by omega) (by omega)]
    rfl
  exact ⟨r, hr, 1125899906842624 + 9, fun k hk => (e k (by omega)).trans (key k (by omega))⟩
theorem needs_spec_not {l : List Int} {to want : Int} (hlen : l.length ≤ 1048576) (h : ¬ needsOk l to want) : Gv (fun k => Gf.spec_Needs k l to want) ([], false) := by
  refine ⟨5, fun k hk => ?_⟩
  show Gf.spec_Needs k l to want = _
  unfold Gf.spec_Needs
  rw [l21Sum l hk, l01In_same, l01Num_same]
  simp only [Option.bind_some]
  by_cases h1 : 1 ≤ l.length ∧ l.length ≤ 4 ∧ l.all isNumB = true
  · rw [if_pos h1, wrap64 (z := (l.length : Int) - 1) (by omega) (by omega)]
    rw [if_neg (by simp)]
    by_cases h2 : 0 ≤ to ∧ to < l.length
    · have g1 : (decide ((0 : Int) ≤ to) && decide (to ≤ (l.length : Int) - 1)) = true := by simp only [Bool.and_eq_true, decide_eq_true_eq]; omega
      have g3 : (decide ((0 : Int) ≤ to) && decide (to < (l.length : Int))) = true := by simp only [Bool.and_eq_true, decide_eq_true_eq]; omega
      rw [g1, g3, if_neg (by simp)]
      by_cases h3 : isNumB want = true
      · have g2 : (decide ((0 : Int) ≤ want) && decide (want ≤ 1125899906842624)) = true := h3
        rw [g2, if_neg (by simp)]
        by_cases h4 : want ≤ l.sum
        · rw [if_neg (by simp only [decide_eq_true_eq]; omega), if_pos rfl, if_pos]
          simp only [decide_eq_true_eq]
          exact Int.not_le.1 fun h5 => h ⟨h1, h2, h3, h4, h5⟩
        · rw [if_pos (by simp only [decide_eq_true_eq]; omega)]
      · have g2 : (decide ((0 : Int) ≤ want) && decide (want ≤ 1125899906842624)) = false := Bool.eq_false_iff.2 h3
        rw [g2]; rfl
    · have g1 : (decide ((0 : Int) ≤ to) && decide (to ≤ (l.length : Int) - 1)) = false := by simp only [Bool.and_eq_false_iff, decide_eq_false_iff_not]; omega
      rw [g1]; rfl
  · rw [if_neg h1]; rfl

/-! ### the program's checks -/
theorem needs_p3 (l : List Int) (to want : Int) (hl : l.length ≤ 1048576) : ∀ (d k i : Nat), i + d = l.length → d < k → i ≤ 4 → (∀ j, j < i → isNumB (l.getD j 0) = true) → Gf.impl_Needs.p3 k l to want (l.take i).sum l l.length i = if l.length ≤ 4 ∧ (l.drop i).all isNumB = true then Gf.impl_Needs.p3 (k - d) l to want l.sum l l.length l.length else some ([], false) := by
  intro d
  induction d with
  | zero =>
    intro k i hd hk h4 hj
    have : i = l.length := by omega
    subst this
    rw [List.take_of_length_le (Nat.le_refl _), List.drop_eq_nil_of_le (Nat.le_refl _), if_pos ⟨h4, rfl⟩]
    rfl
  | succ d ih =>
    intro k i hd hk h4 hj
    obtain ⟨k, rfl⟩ : ∃ m, k = m + 1 := ⟨k - 1, by omega⟩
    have hi : i < l.length := by omega
    have e : k + 1 - (d + 1) = k - d := by omega
    rw [e]
    rw [Gf.impl_Needs.p3]
    rw [if_pos (by simp only [decide_eq_true_eq]; omega), if_pos (by simp only [Bool.and_eq_true, decide_eq_true_eq]; omega), Int.toNat_natCast]
    by_cases h5 : i = 4
    · rw [if_pos (by simp only [decide_eq_true_eq]; omega), if_neg fun h => by omega]
    · rw [if_neg (by simp only [decide_eq_true_eq]; omega), isNum_same]
      simp only [Option.bind_some]
      rw [drop_cons hi, List.all_cons]
      by_cases h : isNumB (l.getD i 0) = true
      · have h' : (decide (0 ≤ l.getD i 0) && decide (l.getD i 0 ≤ 1125899906842624)) = true := h
        have hb := sum_bound _ (nums_take hj)
        have hlen : ((l.take i).length : Int) ≤ 4 := by rw [List.length_take]; omega
        rw [h', if_neg (by simp), bump (n := l.length) hi (by omega), h, Bool.true_and]
        simp only [Bool.and_eq_true, decide_eq_true_eq] at h'
        rw [wrap64 (by omega) (by omega), ← take_sum hi]
        exact ih k (i + 1) (by omega) (by omega) (by omega) fun j hj' => by
          rcases Nat.lt_succ_iff_lt_or_eq.1 hj' with hj' | rfl
          · exact hj j hj'
          · exact h
      · have h' : ¬ (decide (0 ≤ l.getD i 0) && decide (l.getD i 0 ≤ 1125899906842624)) = true := h
        rw [Bool.eq_false_iff.2 h', Bool.eq_false_iff.2 h, if_pos (by rfl), if_neg (by simp)]
theorem needs_impl {l : List Int} {to want : Int} (hlen : l.length ≤ 1048576) {r : List Int × Bool} (h : Gv (fun k => Gf.spec_Needs k l to want) r) : Gv (fun k => Gf.impl_Needs k l to want) r := by
  obtain ⟨K, hK⟩ := h
  refine ⟨K + l.length + 1125899906842624 + 20, fun k hk => ?_⟩
  show Gf.impl_Needs k l to want = _
  unfold Gf.impl_Needs
  have e := needs_p3 l to want hlen l.length k 0 (by omega) (by omega) (by omega) (fun j hj => absurd hj (Nat.not_lt_zero _))
  refine (show _ = _ from e).trans ?_
  rw [List.drop_zero]
  obtain ⟨m, hm⟩ : ∃ m, k - l.length = m + 1 := ⟨k - l.length - 1, by omega⟩
  rw [hm]
  have hs : Gf.spec_Needs m l to want = some r := hK m (by omega)
  rw [← hs]
  unfold Gf.spec_Needs
  rw [l21Sum l (by omega), l01In_same, l01Num_same]
  simp only [Option.bind_some]
  by_cases h1 : l.length ≤ 4 ∧ l.all isNumB = true
  · rw [if_pos h1, Gf.impl_Needs.p3, if_neg (by simp), in_same, isNum_same]
    simp only [Option.bind_some, Gf.impl_copyInts]
    by_cases h0 : 1 ≤ l.length
    · rw [if_pos (c := 1 ≤ l.length ∧ l.length ≤ 4 ∧ l.all isNumB = true) ⟨h0, h1⟩, needs_outer]
      have hroom : l.length * 8 ≤ room := by unfold room; omega
      rw [if_pos (c := decide ((0 + l.length) * 8 ≤ room) = true) (by rw [Nat.zero_add]; exact decide_eq_true hroom)]
      have e0 : Nat.add 0 l.length = l.length := Nat.zero_add _
      rw [e0, List.nil_append]
      by_cases g : (decide ((0 : Int) ≤ to) && decide (to < (l.length : Int))) = true
      · simp only [g, if_true, Bool.not_true, Bool.false_eq_true, if_false]
      · simp [g]
    · have hz : l.length = 0 := by omega
      have g1 : (decide ((0 : Int) ≤ to) && decide (to ≤ IntKind.wrap .i64 ((l.length : Int) - 1))) = false := by
        rw [wrap64 (by omega) (by omega)]
        simp only [Bool.and_eq_false_iff, decide_eq_false_iff_not]; omega
      rw [g1, if_neg (c := 1 ≤ l.length ∧ l.length ≤ 4 ∧ l.all isNumB = true) fun hh => h0 hh.1]; rfl
  · rw [if_neg h1, if_neg (c := 1 ≤ l.length ∧ l.length ≤ 4 ∧ l.all isNumB = true) fun hh => h1 hh.2]; rfl
theorem needs (l : List Int) (to want : Int) (hlen : l.length ≤ 1048576) : ∃ r, r.1.length ≤ 1048576 ∧ Gv (fun k => Gf.spec_Needs k l to want) r ∧ Gv (fun k => Gf.impl_Needs k l to want) r := by
  by_cases h : needsOk l to want
  · obtain ⟨r, hr, hg⟩ := needs_spec h
    exact ⟨(r, true), by show r.length ≤ _; omega, hg, needs_impl hlen hg⟩
  · have hg := needs_spec_not hlen h
    exact ⟨([], false), by simp, hg, needs_impl hlen hg⟩
theorem FnExactNeeds (l : List Int) (to want : Int) (_ : ∀ y, y ∈ l → In64 y) (_ : In64 to) (_ : In64 want) : ∃ k, Gf.laws_FnExactNeeds k l to want = some true := by
  by_cases hbig : l.length > 1048576
  · refine ⟨0, ?_⟩
    unfold Gf.laws_FnExactNeeds
    rw [if_pos (by simp only [decide_eq_true_eq]; omega)]
  · have hlen : l.length ≤ 1048576 := by omega
    obtain ⟨r, hr, ⟨K1, h1⟩, ⟨K2, h2⟩⟩ := needs l to want hlen
    obtain ⟨k, hk⟩ : ∃ k, k = K1 + K2 + l.length + r.1.length + 5 := ⟨_, rfl⟩
    refine ⟨k, ?_⟩
    have h1 : Gf.spec_Needs k l to want = some r := h1 k (by omega)
    have h2 : Gf.impl_Needs k l to want = some r := h2 k (by omega)
    unfold Gf.laws_FnExactNeeds
    rw [if_neg (by simp only [decide_eq_true_eq]; omega), toIntS l hlen (by omega)]
    simp only [Option.bind_some]
    rw [h1]
    simp only [Option.bind_some]
    rw [h2]
    simp only [Option.bind_some]
    rw [eqIntS r.1 hr (by omega), eqIntS l hlen (by omega), mark l 1 (by omega) (by omega) (by omega) (by omega), mark r.1 1 (by omega) (by omega) (by omega) (by omega)]
    simp only [Option.bind_some]
    rw [held r.1.length 1 (by omega) (by omega) (by omega) (by omega)]
    simp only [Option.bind_some]
    rw [if_neg (by simp), if_neg (by simp), if_neg (by simp), if_neg (by simp only [decide_eq_true_eq]; omega), if_neg (by simp), if_neg (by simp), if_neg (by simp only [decide_eq_true_eq]; omega), if_neg (by simp), if_neg (by simp), if_neg (by simp), if_neg (by simp only [decide_eq_true_eq]; omega), if_neg (by simp)]
end Pu
