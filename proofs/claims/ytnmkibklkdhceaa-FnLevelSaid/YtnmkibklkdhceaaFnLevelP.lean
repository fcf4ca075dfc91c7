/- The plain law of FnLevel: behind levelling all have the same up to 1, by fewer gifts than there are nodes. -/
import Derived.Test.YtnmkibklkdhceaaLevelP
import Derived.Test.YtnmkibklkdhceaaFnLevelF
set_option linter.unusedVariables false
set_option linter.unusedSimpArgs false
open Go Go.Ri
namespace Pu
/-! ### numbers out of code -/
theorem l01New (code : List Int) (hn : code.length ≤ 1048576) : ∃ s : Int, ∀ k, code.length + 1 < k → Gf.spec_l01New k code = some (code, 0, s) := by
  have key : ∀ (d i : Nat) (v : Int), i + d = code.length → ∃ s : Int, ∀ k, d < k → Gf.spec_l01New.p3 k code v (i : Int) = some (code, 0, s) := by
    intro d
    induction d with
    | zero =>
      intro i v hd
      refine ⟨v, fun k hk => ?_⟩
      obtain ⟨k, rfl⟩ : ∃ m, k = m + 1 := ⟨k - 1, by omega⟩
      have : i = code.length := by omega
      subst this
      rw [Gf.spec_l01New.p3, if_neg (notBelow _)]
    | succ d ih =>
      intro i v hd
      have hi : i < code.length := by omega
      by_cases h4 : (i : Int) < 4000
      · obtain ⟨s, hs⟩ := ih (i + 1) (IntKind.wrap IntKind.i64 (↑(BitVec.toNat (BitVec.ofInt (IntKind.bits IntKind.i64) (IntKind.wrap IntKind.i64 (IntKind.wrap IntKind.i64 (IntKind.wrap IntKind.i64 (v * 47) + IntKind.wrap IntKind.i64 (List.getD code i 0)) + 7)) &&& BitVec.ofInt (IntKind.bits IntKind.i64) 1073741823)) : Int)) (by omega)
        refine ⟨s, fun k hk => ?_⟩
        obtain ⟨k, rfl⟩ : ∃ m, k = m + 1 := ⟨k - 1, by omega⟩
        rw [Gf.spec_l01New.p3, if_pos (below hi), if_pos (decide_eq_true h4), if_pos (inside hi), Int.toNat_natCast, bump hi (by omega)]
        exact hs k (by omega)
      · refine ⟨v, fun k hk => ?_⟩
        obtain ⟨k, rfl⟩ : ∃ m, k = m + 1 := ⟨k - 1, by omega⟩
        rw [Gf.spec_l01New.p3, if_pos (below hi), if_neg (by simpa only [decide_eq_true_eq] using h4)]
  obtain ⟨s, hs⟩ := key code.length 0 (IntKind.wrap IntKind.i64 (1626 + (code.length : Int))) (by omega)
  exact ⟨s, fun k hk => hs k (by omega)⟩
theorem and255 (x : BitVec 64) : (x &&& BitVec.ofInt 64 255).toNat ≤ 255 := by
  have e : (BitVec.ofInt 64 255).toNat = 255 := by decide
  rw [BitVec.toNat_and, e]
  exact Nat.and_le_right
theorem wrap255 (n : Nat) (h : n ≤ 255) : 0 ≤ IntKind.wrap .i64 (n : Int) ∧ IntKind.wrap .i64 (n : Int) ≤ 255 := by
  rw [wrap64 (by omega) (by omega)]; omega
theorem l01Byte0 (c : List Int × Int × Int) (h0 : 0 ≤ c.2.1) (h1 : c.2.1 ≤ 1048576) : ∃ (x : BitVec 64) (p s : Int), (0 ≤ p ∧ p ≤ c.2.1 + 1) ∧ Gf.spec_l01Byte 0 c = some (IntKind.wrap .i64 ((x &&& BitVec.ofInt 64 255).toNat : Int), p, s) := by
  unfold Gf.spec_l01Byte
  rw [if_pos (by decide), if_pos (by decide)]
  by_cases h : c.2.1 < c.1.length
  · rw [if_pos (decide_eq_true h), if_pos (by simp only [Bool.and_eq_true, decide_eq_true_eq]; exact ⟨h0, h⟩)]
    refine ⟨_, _, _, ?_, rfl⟩
    rw [wrap64 (by omega) (by omega)]; omega
  · rw [if_neg (by simpa only [decide_eq_true_eq] using h)]
    refine ⟨_, _, _, ?_, rfl⟩
    omega
theorem l01Byte (c : List Int × Int × Int) (h0 : 0 ≤ c.2.1) (h1 : c.2.1 ≤ 1048576) : ∃ b p s : Int, (0 ≤ b ∧ b ≤ 255) ∧ (0 ≤ p ∧ p ≤ c.2.1 + 1) ∧ ∀ k, Gf.spec_l01Byte k c = some (b, p, s) := by
  obtain ⟨x, p, s, hp, e⟩ := l01Byte0 c h0 h1
  exact ⟨_, p, s, wrap255 _ (and255 x), hp, fun k => e⟩
theorem l01Below (c : List Int × Int × Int) (h0 : 0 ≤ c.2.1) (h1 : c.2.1 ≤ 1048576) (n : Int) (hn : 1 ≤ n) (hn2 : n ≤ 256) : ∃ b p s : Int, (0 ≤ b ∧ b < n) ∧ (0 ≤ p ∧ p ≤ c.2.1 + 1) ∧ ∀ k, Gf.spec_l01Below k c n = some (b, p, s) := by
  obtain ⟨b, p, s, hb, hp, e⟩ := l01Byte (c.1, c.2.1, c.2.2) h0 h1
  refine ⟨Int.tmod b n, p, s, ?_, hp, fun k => ?_⟩
  · rw [Int.tmod_eq_emod_of_nonneg hb.1]
    exact ⟨Int.emod_nonneg _ (by omega), Int.emod_lt_of_pos _ (by omega)⟩
  · unfold Gf.spec_l01Below
    rw [if_neg (by simp only [decide_eq_true_eq]; omega), if_pos (by simp only [decide_eq_true_eq]; omega), e]
    simp only [Option.bind_some]
    rw [if_pos (by simp; omega)]
theorem makeNum (code : List Int) (hc : code.length ≤ 1048576) (n : Int) (hn : 1 ≤ n) (hn2 : n ≤ 256) : ∃ b : Int, (0 ≤ b ∧ b < n) ∧ ∀ k, code.length + 1 < k → Gf.spec_MakeNum k code n = some b := by
  obtain ⟨s, hs⟩ := l01New code hc
  obtain ⟨b, p, s', hb, _, e⟩ := l01Below (code, 0, IntKind.wrap IntKind.i64 (s + 777)) (Int.le_refl _) (by simp) n hn hn2
  refine ⟨b, hb, fun k hk => ?_⟩
  unfold Gf.spec_MakeNum
  rw [hs k hk]
  simp only [Option.bind_some]
  rw [e]
  rfl

def In8 (x : Int) : Prop := 0 ≤ x ∧ x ≤ 255
/-! ### what levelling leaves -/
/-- the gifts alone -/
def levs (n : Nat) (w : List Int) : Nat → List Int → List Ev
  | 0, _ => []
  | d + 1, l => if low (hi l w) n (-1) < 0 then [] else if low (lo l w) n (-1) < 0 then [] else
    gift (low (hi l w) n (-1)).toNat (low (lo l w) n (-1)).toNat (amt l w (low (hi l w) n (-1)).toNat (low (lo l w) n (-1)).toNat) :: levs n w d (move l w (low (hi l w) n (-1)).toNat (low (lo l w) n (-1)).toNat)
theorem lev_levs (n : Nat) (w : List Int) : ∀ (d : Nat) (l : List Int) (acc : List Ev), lev n w d l acc = acc ++ levs n w d l
  | 0, _, _ => by simp [lev, levs]
  | d + 1, l, acc => by
    unfold lev levs
    split
    · simp
    · split
      · simp
      · rw [lev_levs n w d]; simp
theorem four {l : List Int} (h : l.length = 4) : l = [l.getD 0 0, l.getD 1 0, l.getD 2 0, l.getD 3 0] := by
  match l, h with
  | [a, b, c, d], _ => rfl
theorem four_sum {l : List Int} (h : l.length = 4) : l.sum = l.getD 0 0 + l.getD 1 0 + l.getD 2 0 + l.getD 3 0 := by
  match l, h with
  | [a, b, c, d], _ => simp; omega
theorem four_eq {l w : List Int} (hl : l.length = 4) (hw : w.length = 4) (h : ∀ j, j < 4 → l.getD j 0 = w.getD j 0) : l = w := by
  rw [four hl, four hw, h 0 (by omega), h 1 (by omega), h 2 (by omega), h 3 (by omega)]
theorem no_low {p : Nat → Bool} {n : Nat} (h : low p n (-1) < 0) : ∀ j, j < n → p j = false := by
  intro j hj
  cases hv : p j with
  | false => rfl
  | true =>
    exfalso
    -- the smallest index at which p holds
    have : ∀ m, m ≤ n → ∀ f : Int, low p m f = f ∨ 0 ≤ low p m f := by
      intro m
      induction m with
      | zero => intro _ f; exact .inl rfl
      | succ m ih =>
        intro hm f
        rw [low]
        split
        · rcases ih (by omega) (m : Int) with e | e
          · exact .inr (by omega)
          · exact .inr e
        · exact ih (by omega) f
    have key : ∀ m, j < m → m ≤ n → ∀ f : Int, 0 ≤ low p m f := by
      intro m
      induction m with
      | zero => intro h; omega
      | succ m ih =>
        intro hjm hm f
        rw [low]
        by_cases e : j = m
        · subst e
          rw [hv, if_pos rfl]
          rcases this j (by omega) (j : Int) with e | e <;> omega
        · exact ih (by omega) (by omega) _
    have := key n hj (Nat.le_refl _) (-1)
    omega
theorem all_level {l w : List Int} (hl : l.length = 4) (hw : w.length = 4) (hs : l.sum = w.sum) (h : low (hi l w) 4 (-1) < 0 ∨ low (lo l w) 4 (-1) < 0) : l = w := by
  rw [four_sum hl, four_sum hw] at hs
  rcases h with h | h
  · have k := no_low h
    have k0 := k 0 (by omega); have k1 := k 1 (by omega); have k2 := k 2 (by omega); have k3 := k 3 (by omega)
    simp only [hi, decide_eq_false_iff_not] at k0 k1 k2 k3
    refine four_eq hl hw fun j hj => ?_
    rcases (by omega : j = 0 ∨ j = 1 ∨ j = 2 ∨ j = 3) with rfl | rfl | rfl | rfl <;> omega
  · have k := no_low h
    have k0 := k 0 (by omega); have k1 := k 1 (by omega); have k2 := k 2 (by omega); have k3 := k 3 (by omega)
    simp only [lo, decide_eq_false_iff_not] at k0 k1 k2 k3
    refine four_eq hl hw fun j hj => ?_
    rcases (by omega : j = 0 ∨ j = 1 ∨ j = 2 ∨ j = 3) with rfl | rfl | rfl | rfl <;> omega
theorem cnt_two {l w : List Int} : ∀ {n f t : Nat}, f < n → t < n → f ≠ t → l.getD f 0 ≠ w.getD f 0 → l.getD t 0 ≠ w.getD t 0 → 2 ≤ cnt l w n := by
  have one : ∀ n f, f < n → l.getD f 0 ≠ w.getD f 0 → 1 ≤ cnt l w n := by
    intro n
    induction n with
    | zero => intro f h; omega
    | succ n ih =>
      intro f hf h
      rw [cnt]
      by_cases e : f = n
      · subst e; rw [if_neg h]; omega
      · have := ih f (by omega) h; omega
  intro n
  induction n with
  | zero => intro f t h; omega
  | succ n ih =>
    intro f t hf ht hne h1 h2
    rw [cnt]
    by_cases e : f = n
    · subst e
      have := one f t (by omega) h2
      rw [if_neg h1]; omega
    · by_cases e2 : t = n
      · subst e2
        have := one t f (by omega) h1
        rw [if_neg h2]; omega
      · have := ih (f := f) (t := t) (by omega) (by omega) hne h1 h2
        omega
theorem sum_move {l w : List Int} (h : Fine 4 l w) {f t : Nat} (hf : f < 4) (ht : t < 4) (hne : f ≠ t) : (move l w f t).sum = l.sum := by
  have h4 : (move l w f t).length = 4 := by unfold move; rw [List.length_modify, List.length_modify, h.1]
  have g := fun j => move_get h hf ht hne j
  rw [four_sum h4, four_sum h.1, g 0, g 1, g 2, g 3]
  rcases (by omega : f = 0 ∨ f = 1 ∨ f = 2 ∨ f = 3) with rfl | rfl | rfl | rfl <;> rcases (by omega : t = 0 ∨ t = 1 ∨ t = 2 ∨ t = 3) with rfl | rfl | rfl | rfl <;> simp at hne ⊢ <;> omega
theorem levs_few (w : List Int) : ∀ (d : Nat) (l : List Int), Fine 4 l w → l.sum = w.sum → cnt l w 4 ≤ d + 1 → (levs 4 w (d + 1) l).length ≤ d
  | 0, l, h, hs, hc => by
    rw [levs]
    rcases low_cases (p := hi l w) (n := 4) with ⟨c1, c2⟩ | ⟨f, hf, kf, ef⟩
    · rw [if_pos c1]; exact Nat.le_refl _
    · rcases low_cases (p := lo l w) (n := 4) with ⟨c1, c2⟩ | ⟨t, ht, kt, et⟩
      · rw [if_neg (by omega), if_pos c1]; exact Nat.le_refl _
      · have := cnt_two (l := l) (w := w) hf ht (hi_lo_ne kf kt) (by simp only [hi, decide_eq_true_eq] at kf; omega) (by simp only [lo, decide_eq_true_eq] at kt; omega)
        omega
  | d + 1, l, h, hs, hc => by
    rw [levs]
    rcases low_cases (p := hi l w) (n := 4) with ⟨c1, c2⟩ | ⟨f, hf, kf, ef⟩
    · rw [if_pos c1]; exact Nat.zero_le _
    · rcases low_cases (p := lo l w) (n := 4) with ⟨c1, c2⟩ | ⟨t, ht, kt, et⟩
      · rw [if_neg (by omega), if_pos c1]; exact Nat.zero_le _
      · obtain ⟨hm, hcm, -, -⟩ := move_fine h hf ht kf kt
        rw [ef, et, if_neg (by omega), if_neg (by omega), List.length_cons, Int.toNat_natCast, Int.toNat_natCast]
        have := levs_few w d (move l w f t) hm (by rw [sum_move h hf ht (hi_lo_ne kf kt)]; exact hs) (by omega)
        omega
/-! ### the law -/
theorem share_sum (a : Int) (ha : 0 ≤ a) : (shares a 4 4).sum = a := by
  have h1 := Int.emod_add_mul_ediv a 4
  have h2 := Int.emod_nonneg a (show (4 : Int) ≠ 0 by decide)
  have h3 := Int.emod_lt_of_pos a (show (0 : Int) < 4 by decide)
  rw [four_sum (shares_length ..), shares_get _ _ _ _ (by omega), shares_get _ _ _ _ (by omega), shares_get _ _ _ _ (by omega), shares_get _ _ _ _ (by omega)]
  unfold share
  generalize a % 4 = r at h1 h2 h3
  generalize a / 4 = q at h1
  rcases (by omega : r = 0 ∨ r = 1 ∨ r = 2 ∨ r = 3) with rfl | rfl | rfl | rfl <;> simp <;> omega
theorem share_even (a : Int) : ((shares a 4 4).any fun x => (shares a 4 4).any (far x)) = false := by
  have key : ∀ x, x ∈ shares a 4 4 → x = a / 4 ∨ x = a / 4 + 1 := by
    intro x hx
    obtain ⟨j, hj, rfl⟩ := List.mem_iff_getElem.1 hx
    rw [shares_length] at hj
    have := shares_get a 4 4 j hj
    rw [List.getD_eq_getElem?_getD, List.getElem?_eq_getElem (by rw [shares_length]; exact hj), Option.getD_some] at this
    rw [this]
    unfold share
    split
    · exact .inr rfl
    · exact .inl rfl
  refine Bool.eq_false_iff.2 fun h => ?_
  obtain ⟨x, hx, h⟩ := List.any_eq_true.1 h
  obtain ⟨y, hy, h⟩ := List.any_eq_true.1 h
  simp only [far, Bool.and_eq_true, decide_eq_true_eq] at h
  have := key x hx
  have := key y hy
  omega
theorem level_loop (w : List Int) (evs : List Ev) (s n : Int) (hn : n = evs.length) (he : evs.length ≤ 8) : ∀ (d i k : Nat) (l : List Int), Fine 4 l w → l.sum = w.sum → cnt l w 4 ≤ d + 1 → evs.drop i = levs 4 w d l → i ≤ evs.length → evs.length - i < k →
    Gf.laws_FnLevel.p7 k s n (i : Int) l evs = Gf.laws_FnLevel.p7 (k - (evs.length - i)) s n n w evs := by
  have last : ∀ (i k : Nat) (l : List Int), Fine 4 l w → l.sum = w.sum → low (hi l w) 4 (-1) < 0 ∨ low (lo l w) 4 (-1) < 0 → evs.drop i = [] → i ≤ evs.length → Gf.laws_FnLevel.p7 k s n (i : Int) l evs = Gf.laws_FnLevel.p7 (k - (evs.length - i)) s n n w evs := by
    intro i k l h hs hor hd hi
    have e : i = evs.length := by
      have := List.drop_eq_nil_iff.1 hd
      omega
    have e2 := all_level h.1 h.2.1 hs hor
    subst e e2
    rw [Nat.sub_self, Nat.sub_zero, hn]
  intro d
  induction d with
  | zero =>
    intro i k l h hs hc hd hi hk
    rcases low_cases (p := Pu.hi l w) (n := 4) with ⟨c1, c2⟩ | ⟨f, hf, kf, ef⟩
    · exact last i k l h hs (.inl c1) hd hi
    · rcases low_cases (p := lo l w) (n := 4) with ⟨c1, c2⟩ | ⟨t, ht, kt, et⟩
      · exact last i k l h hs (.inr c1) hd hi
      · have := cnt_two (l := l) (w := w) hf ht (hi_lo_ne kf kt) (by simp only [Pu.hi, decide_eq_true_eq] at kf; omega) (by simp only [lo, decide_eq_true_eq] at kt; omega)
        omega
  | succ d ih =>
    intro i k l h hs hc hd hi hk
    rw [levs] at hd
    rcases low_cases (p := Pu.hi l w) (n := 4) with ⟨c1, c2⟩ | ⟨f, hf, kf, ef⟩
    · rw [if_pos c1] at hd
      exact last i k l h hs (.inl c1) hd hi
    · rcases low_cases (p := lo l w) (n := 4) with ⟨c1, c2⟩ | ⟨t, ht, kt, et⟩
      · rw [if_neg (by omega), if_pos c1] at hd
        exact last i k l h hs (.inr c1) hd hi
      · obtain ⟨a1, a2, a3, a4⟩ := amt_pos kf kt
        obtain ⟨hm, hcm, -, -⟩ := move_fine h hf ht kf kt
        have hF := h.2.2 f hf
        have hT := h.2.2 t ht
        have hne := hi_lo_ne kf kt
        have hsm := sum_move h hf ht hne
        rw [ef, et, if_neg (by omega), if_neg (by omega), Int.toNat_natCast, Int.toNat_natCast] at hd
        have hi' : i < evs.length := by
          refine Decidable.byContradiction fun hh => ?_
          rw [List.drop_eq_nil_of_le (by omega)] at hd
          cases hd
        rw [List.drop_eq_getElem_cons hi'] at hd
        obtain ⟨hg, hd'⟩ := List.cons.inj hd
        have hget : evs.getD i (0, 0, 0, 0, 0, 0, 0, 0, 0, 0, 0, 0) = gift f t (amt l w f t) := by
          rw [List.getD_eq_getElem?_getD, List.getElem?_eq_getElem hi']; exact hg
        obtain ⟨k, rfl⟩ : ∃ q, k = q + 1 := ⟨k - 1, by omega⟩
        have g1 : (decide ((0 : Int) ≤ (f : Int)) && decide ((f : Int) < (l.length : Int))) = true := inside (by rw [h.1]; omega)
        have g3 : (decide ((0 : Int) ≤ (t : Int)) && decide ((t : Int) < (l.length : Int))) = true := inside (by rw [h.1]; omega)
        have ek : k + 1 - (evs.length - i) = k - (evs.length - (i + 1)) := by omega
        rw [ek, ← ih (i + 1) k (move l w f t) hm (by rw [hsm]; exact hs) (by omega) hd' (by omega) (by omega)]
        rw [Gf.laws_FnLevel.p7, if_pos (by simp only [decide_eq_true_eq]; omega), if_pos (inside hi')]
        simp only [Int.toNat_natCast, hget, gift]
        rw [if_neg (by simp only [decide_eq_true_eq]; omega), if_neg (by simp only [decide_eq_true_eq]; omega), if_neg (by simp only [decide_eq_true_eq]; omega), if_neg (by simp only [decide_eq_true_eq]; omega), if_neg (by simp only [decide_eq_true_eq]; omega)]
        rw [if_pos g1, if_neg (by simp only [decide_eq_true_eq]; omega), if_pos g1, if_pos g1, if_pos g3, if_pos g3, bump hi' (by omega), wrap64 (z := l.getD f 0 - amt l w f t) (by omega) (by omega)]
        have eg : (l.modify f fun _ => l.getD f 0 - amt l w f t).getD t 0 = l.getD t 0 := by
          rw [getD_modify _ _ _ _ (by rw [h.1]; exact hf), if_neg (Ne.symm hne)]
        rw [eg, wrap64 (z := l.getD t 0 + amt l w f t) (by omega) (by omega)]
        rfl
theorem even_ok {l : List Int} (hn : l.length ≤ 1048576) (hxs : ∀ y, y ∈ l → In64 y) (h : (l.any fun x => l.any (far x)) = false) {k : Nat} (hk : 2 * l.length + 1 < k) : Gf.impl_Even k l = some true := by
  rw [even_same l hn hxs hk, h]; rfl
theorem FnLevel (code : List Int) (_ : ∀ y, y ∈ code → In8 y) : ∃ k, Gf.laws_FnLevel k code = some true := by
  refine ⟨code.length + 100, ?_⟩
  unfold Gf.laws_FnLevel
  by_cases hbig : code.length > 1048576
  · rw [if_pos (by simp only [decide_eq_true_eq]; omega)]
  · have hlen : code.length ≤ 1048576 := by omega
    obtain ⟨a, ha, ea⟩ := makeNum code hlen 40 (by omega) (by omega)
    obtain ⟨b, hb, eb⟩ := makeNum code hlen 33 (by omega) (by omega)
    obtain ⟨c, hc, ec⟩ := makeNum code hlen 21 (by omega) (by omega)
    obtain ⟨d, hd, ed⟩ := makeNum code hlen 7 (by omega) (by omega)
    rw [if_neg (by simp only [decide_eq_true_eq]; omega), ea _ (by omega), eb _ (by omega), ec _ (by omega), ed _ (by omega)]
    simp only [Option.bind_some]
    rw [if_pos (by decide), if_pos (by decide), if_pos (by decide), if_pos (by decide)]
    have hok : levOk [a, b, c, d] := by
      refine ⟨⟨by simp, by simp⟩, ?_⟩
      simp only [List.all_cons, List.all_nil, isAmtB, Bool.and_eq_true, decide_eq_true_eq, Bool.and_true]
      omega
    obtain ⟨hs, hf⟩ := fine_shares hok
    have esum : [a, b, c, d].sum = a + b + c + d := by simp; omega
    rw [impl_level_ok hok (by omega), lev_levs]
    simp only [Option.bind_some, List.nil_append]
    have e4 : ([a, b, c, d] : List Int).length = 4 := rfl
    rw [e4] at hf ⊢
    rw [esum] at hf hs ⊢
    have hv : (IntKind.wrap .i64 (IntKind.wrap .i64 (IntKind.wrap .i64 (List.getD [a, b, c, d] (Int.toNat 0) 0 + List.getD [a, b, c, d] (Int.toNat 1) 0) + List.getD [a, b, c, d] (Int.toNat 2) 0) + List.getD [a, b, c, d] (Int.toNat 3) 0)) = a + b + c + d := by
      show IntKind.wrap .i64 (IntKind.wrap .i64 (IntKind.wrap .i64 (a + b) + c) + d) = _
      rw [wrap64 (z := a + b) (by omega) (by omega), wrap64 (z := a + b + c) (by omega) (by omega), wrap64 (by omega) (by omega)]
    rw [hv]
    have hf' : Fine 4 [a, b, c, d] (shares (a + b + c + d) 4 4) := hf
    have hss : [a, b, c, d].sum = (shares (a + b + c + d) 4 4).sum := by rw [share_sum _ hs.1, esum]
    have hcnt := cnt_len [a, b, c, d] (shares (a + b + c + d) 4 4) 4
    have few := levs_few (shares (a + b + c + d) 4 4) 3 [a, b, c, d] hf' hss hcnt
    obtain ⟨evs, hevs⟩ : ∃ evs, evs = levs 4 (shares (a + b + c + d) 4 4) 4 [a, b, c, d] := ⟨_, rfl⟩
    have few' : evs.length ≤ 3 := by rw [hevs]; exact few
    have goal : Gf.laws_FnLevel.p7 (code.length + 100) (a + b + c + d) (evs.length : Int) ((0 : Nat) : Int) [a, b, c, d] evs = some true := by
      rw [level_loop (shares (a + b + c + d) 4 4) evs (a + b + c + d) evs.length rfl (by omega) 4 0 (code.length + 100) [a, b, c, d] hf' hss (by omega) (by rw [hevs]; rfl) (by omega) (by omega)]
      obtain ⟨q, hq⟩ : ∃ q, code.length + 100 - (evs.length - 0) = q + 1 := ⟨code.length + 100 - (evs.length - 0) - 1, by omega⟩
      rw [hq, Gf.laws_FnLevel.p7, if_neg (notBelow _)]
      have e5 : Gf.impl_Spread q (a + b + c + d) 4 = some (shares (a + b + c + d) 4 4) := impl_spread (n := 4) hs.1 (by omega) (by omega) (by omega) (by omega)
      rw [e5]
      simp only [Option.bind_some, shares_length]
      have hin : ∀ y, y ∈ shares (a + b + c + d) 4 4 → In64 y := by
        intro y hy
        obtain ⟨j, hj, rfl⟩ := List.mem_iff_getElem.1 hy
        rw [shares_length] at hj
        have := hf'.2.2 j hj
        rw [List.getD_eq_getElem?_getD (l := shares _ _ _), List.getElem?_eq_getElem (by rw [shares_length]; exact hj)] at this
        simp only [Option.getD_some] at this
        unfold In64; omega
      rw [if_pos (by simp only [decide_eq_true_eq]; omega), even_ok (by rw [shares_length]; omega) hin (share_even _) (by rw [shares_length]; omega)]
      simp only [Option.bind_some]
      have e02 : Gf.impl_Even q [0, 2] = some false := by
        rw [even_same [0, 2] (by simp) (by intro y hy; simp at hy; unfold In64; omega) (by simp; omega)]
        rfl
      rw [e02]
      have gs := fun j (hj : j < 4) => hf'.2.2 j hj
      have hsum := share_sum (a + b + c + d) hs.1
      rw [four_sum (shares_length ..)] at hsum
      have g0 := gs 0 (by omega); have g1 := gs 1 (by omega); have g2 := gs 2 (by omega); have g3 := gs 3 (by omega)
      have hw : (IntKind.wrap .i64 (IntKind.wrap .i64 (IntKind.wrap .i64 (List.getD (shares (a + b + c + d) 4 4) (Int.toNat 0) 0 + List.getD (shares (a + b + c + d) 4 4) (Int.toNat 1) 0) + List.getD (shares (a + b + c + d) 4 4) (Int.toNat 2) 0) + List.getD (shares (a + b + c + d) 4 4) (Int.toNat 3) 0)) = a + b + c + d := by
        show IntKind.wrap .i64 (IntKind.wrap .i64 (IntKind.wrap .i64 (List.getD (shares (a + b + c + d) 4 4) 0 0 + List.getD (shares (a + b + c + d) 4 4) 1 0) + List.getD (shares (a + b + c + d) 4 4) 2 0) + List.getD (shares (a + b + c + d) 4 4) 3 0) = _
        rw [wrap64 (z := List.getD (shares (a + b + c + d) 4 4) 0 0 + List.getD (shares (a + b + c + d) 4 4) 1 0) (by omega) (by omega), wrap64 (z := List.getD (shares (a + b + c + d) 4 4) 0 0 + List.getD (shares (a + b + c + d) 4 4) 1 0 + List.getD (shares (a + b + c + d) 4 4) 2 0) (by omega) (by omega), wrap64 (by omega) (by omega)]
        exact hsum
      rw [hw]
      simp
    rw [hevs] at goal
    exact goal
end Pu
