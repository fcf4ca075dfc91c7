/- YtnmkibklkdhceaaRiC: part of the frame: what a function's rows compute, shown sound against the model's steps. -/
import Derived.Test.YtnmkibklkdhceaaRiB
import Derived.Laws.StructEq
import Derived.Orders
/- Every operation but the calls. -/
set_option linter.unusedVariables false
set_option linter.unusedSimpArgs false
namespace Go.Ri
section
variable {E : Env} {P : Program} {T : List TE}

def okOperands : List Operand → Bool
  | [] => true | x :: r => okOperand x && okOperands r
def okParts : List (Nat × Operand) → Bool
  | [] => true | (_, x) :: r => okOperand x && okParts r
def okOpt : Option Operand → Bool
  | some x => okOperand x | none => true
/-- the operands are such as the rules speak of -/
def okOper (o : Oper) : Bool := match o.op with
  | .move x | .assign x | .box _ x | .load _ x | .nilCheck x | .unOp _ _ x | .convert _ _ x | .fieldAddr _ x _ | .field _ x _ | .extract x _ => okOperand x
  | .pick c a b => okOperand c && (okOperand a && okOperand b)
  | .alloc _ => true
  | .build _ ps | .buildSlice _ _ ps => okParts ps.toList
  | .store _ p x => okOperand p && okOperand x && (match o.dst with | none => true | some _ => false)
  | .binOp _ _ x y _ | .makeSlice _ x y | .indexAddr _ x y | .index _ x y => okOperand x && okOperand y
  | .slice _ x lo hi none => okOperand x && (okOpt lo && okOpt hi)
  | .call { callee := .value f, args, .. } => okOperand f && okOperands args.toList
  | .call { callee := .builtin _, args, .. } => okOperands args.toList
  | .makeFunc _ _ cs => okOperands cs.toList
  | _ => false
theorem okOperands_mem : ∀ {l : List Operand}, okOperands l = true → ∀ x, x ∈ l → okOperand x = true
  | a :: l, h, x, hx => by
    simp only [okOperands, Bool.and_eq_true] at h
    rcases List.mem_cons.1 hx with rfl | hx
    · exact h.1
    · exact okOperands_mem h.2 x hx
theorem okParts_mem : ∀ {l : List (Nat × Operand)}, okParts l = true → ∀ p, p ∈ l → okOperand p.2 = true
  | (i, a) :: l, h, x, hx => by
    simp only [okParts, Bool.and_eq_true] at h
    rcases List.mem_cons.1 hx with rfl | hx
    · exact h.1
    · exact okParts_mem h.2 x hx
theorem isByte_d {e : TypeId} (hb : isByte T e = true) : (te T e).d = .sc (.int .u8) := by
  unfold isByte at hb
  split at hb
  · assumption
  · cases hb
theorem eff_ok1 (hT : TOk P T) (hBy : ∀ e, E.By e = (te T e).bytes) {Γ : List (Nat × Ctr)} {s s' : St} {o : Oper} (hok : okOper o = true) (h : (eff T Γ s o).opt = some s') :
    (∀ args tys f, o.op ≠ .call { callee := .value f, args := args, argTypes := tys }) → (∀ b args tys, o.op ≠ .call { callee := .builtin b, args := args, argTypes := tys }) → (∀ op xt x y yt, o.op ≠ .binOp op xt x y yt) → OpOk E P o s s' := by
  intro nc nb nbin
  unfold eff at h
  unfold okOper at hok
  cases e : o.op with
  | move x =>
    simp only [e] at h hok
    split at h
    · rename_i v hv; cases h; exact op_move (.inl e) hok hv
    · cases h
  | assign x =>
    simp only [e] at h hok
    split at h
    · rename_i v hv; cases h; exact op_move (.inr e) hok hv
    · cases h
  | pick c a b =>
    simp only [e, Bool.and_eq_true] at h hok
    split at h
    · rename_i t ht; exact op_pick e hok.1 hok.2.1 hok.2.2 ht h
    · cases h
  | alloc t =>
    simp only [e] at h
    split at h
    · cases h
    · rename_i hd; cases h; exact op_alloc hT e hd
  | box t x =>
    simp only [e] at h hok
    split at h
    · rename_i v hv
      split at h
      · rename_i ls hls; cases h; exact op_box e hok hv hls
      · cases h
    · cases h
  | build t ps =>
    simp only [e] at h hok
    split at h
    · rename_i fs hd
      split at h
      · rename_i ls hls; cases h; exact op_build hT e (okParts_mem hok) hd hls
      · cases h
    · cases h
  | buildSlice t n ps =>
    simp only [e] at h hok
    split at h
    · rename_i et y hd
      split at h
      · rename_i xs own hb
        split at h
        · rename_i hc
          simp only [Bool.and_eq_true] at hc
          cases h
          exact op_buildSlice hT hBy e (okParts_mem hok) hd hb hc.1 (Nat.le_of_ble_eq_true hc.2.1) (Nat.le_of_ble_eq_true hc.2.2)
        · cases h
      · cases h
    · cases h
  | load t p =>
    simp only [e] at h hok
    split at h
    · rename_i l hl; exact op_load hT e hok hl h
    · cases h
  | store t p x =>
    simp only [e, Bool.and_eq_true] at h hok
    obtain ⟨⟨hp, hx⟩, hd⟩ := hok
    have hdst : o.dst = none := by
      cases ed : o.dst with
      | none => rfl
      | some d => rw [ed] at hd; cases hd
    split at h
    rotate_left
    · cases h
    rename_i l v hl hv
    split at h
    · cases h
    · rename_i ls hls hno
      split at h
      rotate_left
      · cases h
      rename_i hlen
      have hlen : ls.length = (te T t).d.ty.sz := by rw [← llen_eq]; exact Nat.eq_of_beq_eq_true hlen
      unfold doStore at h
      split at h
      · rename_i b j
        split at h
        · rename_i bx hb
          split at h
          · rename_i hc
            simp only [Bool.and_eq_true] at hc
            cases h
            exact op_store_box hT hdst e hp hx (fun k => hno k) hl hv hls hlen hb hc.1 (by have := Nat.le_of_ble_eq_true hc.2; rwa [llen_eq, llen_eq] at this)
          · cases h
        · cases h
      · rename_i r i j
        split at h
        rotate_left
        · cases h
        rename_i w own lv hw ho hlv
        split at h
        · cases h
        · rename_i hc
          simp only [Bool.or_eq_true, not_or, Bool.not_eq_true, Bool.not_eq_false'] at hc
          split at h
          · rename_i xs hxs
            cases h
            exact op_store_el hT hdst e hp hx (fun k => hno k) hl hv hls hlen hw ho hlv hc.1.1 (by simpa using hc.1.2) (by have := hc.2; rw [llen_eq] at this; exact Nat.le_of_ble_eq_true (by simpa using this)) hxs
          · cases h
      · cases h
    · cases h
  | nilCheck x =>
    simp only [e] at h hok
    split at h
    · rename_i b j hl; cases h; exact op_nilCheck e hok hl (.inl ⟨b, j, rfl⟩)
    · rename_i r i j hl; cases h; exact op_nilCheck e hok hl (.inr (.inl ⟨r, i, j, rfl⟩))
    · rename_i rs et u xs i j hl; cases h; exact op_nilCheck e hok hl (.inr (.inr ⟨rs, et, u, xs, i, j, rfl⟩))
    · cases h
  | unOp op xt x =>
    simp only [e] at h hok
    split at h
    · rename_i v hv; exact op_un e hok hv h
    · cases h
  | extract x n =>
    simp only [e] at h hok
    split at h
    · rename_i vs hv
      split at h
      · rename_i v hn; cases h; exact op_extract e hok hv hn
      · cases h
    · cases h
  | makeFunc fn first cs =>
    cases fn with
    | func f =>
      simp only [e] at h hok
      split at h
      · rename_i vs h1 h2
        split at h
        · rename_i l hl
          split at h
          · rename_i hs; cases h; exact op_makeFunc e h1 (okOperands_mem hok) h2 hl hs
          · cases h
        · cases h
      · cases h
    | _ => simp only [e] at h; cases h
  | convert src dst x =>
    simp only [e] at h hok
    split at h
    · rename_i a ha
      unfold doConv at h
      split at h
      · rename_i h1 h2; cases h; exact op_conv_int hT e hok h1 h2 ha
      · rename_i h1 h2; cases h; exact op_conv_str hT e hok h1 h2 ha
      · rename_i h1 h2
        split at h
        · rename_i hb
          split at h
          · rename_i hr
            split at h
            · rename_i hty
              cases h
              exact op_conv_bytes hT e hok h1 (isByte_d hb) h2 ha hr hty
            · cases h
          · cases h
        · cases h
      · cases h
    · cases h
  | makeSlice t l c =>
    simp only [e, Bool.and_eq_true] at h hok
    split at h
    · rename_i et y k n hd hl
      split at h
      · rename_i hsame
        simp only [Eff.opt] at h
        split at h
        · rename_i hc
          simp only [Bool.and_eq_true, decide_eq_true_eq] at hc
          cases h
          exact op_makeSlice hT hBy e hok.1 hd hl hsame hc.1 hc.2
        · cases h
      · cases h
    · cases h
  | fieldAddr t p f =>
    simp only [e] at h hok
    split at h
    · rename_i fs l hd hl
      split at h
      · rename_i yf l' hy hl'
        cases h
        exact op_fieldAddr (s' := s) hT e hok hd hy hl hl'
      · cases h
    · cases h
  | field t x f =>
    simp only [e] at h hok
    split at h
    · rename_i fs ls g hd hx
      split at h
      · rename_i yf hy
        split at h
        · rename_i v hv
          cases h
          exact op_field hT e hok hd hy hx hv
        · cases h
      · cases h
    · cases h
  | indexAddr t x i =>
    simp only [e, Bool.and_eq_true] at h hok
    split at h
    · rename_i et y hd
      split at h
      · rename_i a b ha hb
        unfold doIndexAddr at h
        split at h
        · rename_i k z
          split at h
          · rename_i r
            split at h
            · rename_i w hw
              split at h
              · rename_i hty
                simp only [Eff.opt] at h
                split at h
                · rename_i hc
                  simp only [Bool.and_eq_true, decide_eq_true_eq] at hc
                  cases h
                  exact op_indexAddr_row hT e hok.1 hok.2 hd ha hb hw (Ty.beq_eq hty) hc.1 hc.2
                · cases h
              · cases h
            · cases h
          · split at h
            · rename_i hty
              simp only [Eff.opt] at h
              split at h
              · rename_i hc
                simp only [Bool.and_eq_true, decide_eq_true_eq] at hc
                cases h
                exact op_indexAddr_vw hT e hok.1 hok.2 hd ha hb (Ty.beq_eq hty) hc.1 hc.2
              · cases h
            · cases h
          · cases h
        · cases h
      · cases h
    · cases h
  | index t x i =>
    simp only [e, Bool.and_eq_true] at h hok
    split at h
    · rename_i hd ha hb
      simp only [Eff.opt] at h
      split at h
      · rename_i hc
        simp only [Bool.and_eq_true, decide_eq_true_eq] at hc
        cases h
        exact op_index_str hT e hok.1 hok.2 hd ha hb hc.1 hc.2
      · cases h
    · cases h
  | slice t x lo hi mx =>
    cases mx with
    | some m => simp only [e] at h; cases h
    | none =>
      simp only [e, Bool.and_eq_true] at h hok
      have bd : ∀ {z : Option Operand} {l : Option Lf}, okOpt z = true → (match z with
          | some z => (match evl s (.int .i64) z with
            | some l => some (some l) | none => none)
          | none => some none) = some l → BoundOk s z l := by
        intro z l hz hl
        cases z with
        | none => cases hl; trivial
        | some z =>
          simp only at hl
          split at hl
          · rename_i l' hl'; cases hl; exact ⟨hz, _, hl'⟩
          · cases hl
      split at h
      rotate_left
      · cases h
      rename_i v ll hl hv hlo hhi
      unfold doSlice at h
      split at h
      · rename_i hd
        split at h
        · rename_i l u el eh
          simp only [Eff.opt] at h
          split at h
          · rename_i hc
            simp only [Bool.and_eq_true, decide_eq_true_eq] at hc
            cases h
            exact op_slice_str hT e hok.1 hd hv (bd hok.2.1 hlo) (bd hok.2.2 hhi) el eh hc.1 hc.2.1 hc.2.2
          · cases h
        · cases h
      · rename_i hd
        split at h
        · rename_i hr
          split at h
          · rename_i hty
            split at h
            · rename_i l u el eh
              simp only [Eff.opt] at h
              split at h
              · rename_i hc
                simp only [Bool.and_eq_true, decide_eq_true_eq] at hc
                cases h
                exact op_slice hT e hok.1 hd hv hr (Ty.beq_eq hty) (bd hok.2.1 hlo) (bd hok.2.2 hhi) el eh hc.1 hc.2.1 hc.2.2
              · cases h
            · cases h
          · cases h
        · cases h
      · cases h
  | binOp op xt x y yt => exact absurd e (nbin op xt x y yt)
  | call c =>
    obtain ⟨callee, args, tys⟩ := c
    cases callee with
    | value f => exact absurd e (nc args tys f)
    | builtin b => exact absurd e (nb b args tys)
    | invoke r m => simp only [e] at h; cases h
  | _ => simp only [e] at h; cases h
end
end Go.Ri
/- Comparisons, builtins: with RiEff, every operation but the calls. -/
namespace Go.Ri

/-- structs of scalars and of such structs, none blank -/
def eqFs (T : List TE) (g : TypeId → Bool) : List Field → List Ty → Bool
  | [], [] => true
  | f :: r, y :: ys => (match f.name.toByteArray.data.toList with | [95] => false | _ => true) && ((te T f.type).d.ty.beq y && ((match (te T f.type).d with | .no => false | _ => true) && (g f.type && eqFs T g r ys)))
  | _, _ => false
def eqTy (P : Program) (T : List TE) : Nat → TypeId → Bool
  | 0, _ => false
  | n + 1, t => match (te T t).d with
    | .sc (.int _) | .sc .bool | .sc .str => true
    | .st fs => match P.underlying t with
      | some (.struct f) => !(P.stoodInHeld t) && eqFs T (eqTy P T n) f.toList fs
      | _ => false
    | _ => false
/-- a comparison of structs is one that is known -/
def okBin (P : Program) (T : List TE) (o : Oper) : Bool := match o.op with
  | .binOp .eql t _ _ _ | .binOp .neq t _ _ _ => (match (te T t).d with
    | .st _ => !(P.eqGuardType P.depth t) && eqTy P T 12 t
    | _ => true)
  | _ => true

section
variable {E : Env} {P : Program} {T : List TE}

theorem eqLfs_split : ∀ {a a' b b' : List Lf} {c : Bool}, a.length = a'.length → eqLfs (a ++ b) (a' ++ b') = some c → ∃ c1 c2, eqLfs a a' = some c1 ∧ eqLfs b b' = some c2 ∧ c = (c1 && c2)
  | [], [], b, b', c, _, h => ⟨true, c, rfl, h, by simp⟩
  | x :: a, y :: a', b, b', c, hl, h => by
    simp only [List.cons_append] at h
    have hl' : a.length = a'.length := by simpa using hl
    unfold eqLfs at h
    split at h
    · rename_i e; cases e
    · rename_i k p l k' q r e1 e2
      cases e1; cases e2
      split at h
      · rename_i hk
        split at h
        · rename_i c' hc
          obtain ⟨c1, c2, h1, h2, h3⟩ := eqLfs_split hl' hc
          cases h
          exact ⟨(p == q) && c1, c2, by simp [eqLfs, hk, h1], h2, by rw [h3, Bool.and_assoc]⟩
        · cases h
      · cases h
    · rename_i p l q r e1 e2
      cases e1; cases e2
      split at h
      · rename_i c' hc
        obtain ⟨c1, c2, h1, h2, h3⟩ := eqLfs_split hl' hc
        cases h
        exact ⟨(p == q) && c1, c2, by simp [eqLfs, h1], h2, by rw [h3, Bool.and_assoc]⟩
      · cases h
    · rename_i p l q r e1 e2
      cases e1; cases e2
      split at h
      · rename_i c' hc
        obtain ⟨c1, c2, h1, h2, h3⟩ := eqLfs_split hl' hc
        cases h
        exact ⟨(p == q) && c1, c2, by simp [eqLfs, h1], h2, by rw [h3, Bool.and_assoc]⟩
      · cases h
    · cases h
  | [], _ :: _, _, _, _, hl, _ => by simp at hl
  | _ :: _, [], _, _, _, hl, _ => by simp at hl

/-- a part of an aggregate -/
theorem run_part {t : TypeId} {y : Ty} {w : World} (h : CellsOk P t y) (hz : 0 < y.sz) {cs : Array Value} {o : Nat} (hl : o + y.sz ≤ cs.size) :
    (part t cs o).run P w = .ok (mkV y.isPair ((cs.toList.drop o).take y.sz)) w := by
  unfold part
  rw [Sem.run_bind, run_isAgg h]
  simp only [Result.andThen]
  have hlen : ((cs.toList.drop o).take y.sz).length = y.sz := by simp; omega
  cases hp : y.isPair with
  | true =>
    simp only [if_true]
    rw [Sem.run_bind, run_sizeOf h]
    simp only [Result.andThen, Sem.run_pure, mkV, if_true]
    congr 2
    apply Array.toList_inj.1
    rw [Array.toList_extract, List.extract_eq_take_drop, Nat.add_sub_cancel_left]
  | false =>
    simp only [Bool.false_eq_true, if_false]
    have h2 : y.sz = 1 := isPair_sz hp (by omega)
    obtain ⟨u, hu'⟩ := single (hlen.trans h2)
    have h0 : cs[o]? = some u := by
      have : ((cs.toList.drop o).take y.sz)[0]? = some u := by rw [hu']; rfl
      rwa [List.getElem?_take_of_lt hz, List.getElem?_drop, Array.getElem?_toList, Nat.add_zero] at this
    rw [h0, hu']
    rfl
theorem name_ne {s : String} (h : (match s.toByteArray.data.toList with | [95] => false | _ => true) = true) : s ≠ "_" := by
  intro e
  subst e
  exact absurd h (by decide)

theorem LfsRep_of_one {tb : Tb} {W : Wit} {w : World} {l : Lf} {vs : List Value} (h : LfsRep E tb W w [l] vs) : ∃ v, vs = [v] ∧ LfRep E tb W w l v := by
  match vs, h with
  | [v], h => exact ⟨v, rfl, h.1.1⟩
theorem kindsOk_len : ∀ {ys : List Ty} {ls : List Lf}, kindsOk ys ls = true → ls.length = ys.length
  | [], [], _ => rfl
  | .int _ :: _, .int _ _ :: _, h => by simp only [kindsOk, Bool.and_eq_true] at h; simp [kindsOk_len h.2]
  | .bool :: _, .bool _ :: _, h => by simp only [kindsOk] at h; simp [kindsOk_len h]
  | .str :: _, .str _ :: _, h => by simp only [kindsOk] at h; simp [kindsOk_len h]
  | [], _ :: _, h => by simp [kindsOk] at h
  | _ :: _, [], h => by simp [kindsOk] at h
  | .slice _ _ :: _, _ :: _, h | .unit :: _, _ :: _, h | .pair _ _ :: _, _ :: _, h => by simp [kindsOk] at h
  | .int _ :: _, .bool _ :: _, h | .int _ :: _, .str _ :: _, h | .int _ :: _, .nil _ _ :: _, h | .int _ :: _, .ref _ :: _, h | .int _ :: _, .vw _ _ _ _ :: _, h | .int _ :: _, .pbox _ _ :: _, h | .int _ :: _, .pel _ _ _ :: _, h | .int _ :: _, .pvw _ _ _ _ _ _ :: _, h | .int _ :: _, .fn _ _ :: _, h | .int _ :: _, .dead :: _, h => by simp [kindsOk] at h
  | .bool :: _, .int _ _ :: _, h | .bool :: _, .str _ :: _, h | .bool :: _, .nil _ _ :: _, h | .bool :: _, .ref _ :: _, h | .bool :: _, .vw _ _ _ _ :: _, h | .bool :: _, .pbox _ _ :: _, h | .bool :: _, .pel _ _ _ :: _, h | .bool :: _, .pvw _ _ _ _ _ _ :: _, h | .bool :: _, .fn _ _ :: _, h | .bool :: _, .dead :: _, h => by simp [kindsOk] at h
  | .str :: _, .bool _ :: _, h | .str :: _, .int _ _ :: _, h | .str :: _, .nil _ _ :: _, h | .str :: _, .ref _ :: _, h | .str :: _, .vw _ _ _ _ :: _, h | .str :: _, .pbox _ _ :: _, h | .str :: _, .pel _ _ _ :: _, h | .str :: _, .pvw _ _ _ _ _ _ :: _, h | .str :: _, .fn _ _ :: _, h | .str :: _, .dead :: _, h => by simp [kindsOk] at h
theorem kindsOk_cons {y : Ty} {r : List Ty} {ls : List Lf} (h : kindsOk (y :: r) ls = true) : ∃ l ls', ls = l :: ls' ∧ kindsOk r ls' = true ∧ ∀ r' ls', kindsOk r' ls' = true → kindsOk (y :: r') (l :: ls') = true := by
  unfold kindsOk at h
  split at h
  · rename_i e; cases e
  · rename_i e; cases e
    simp only [Bool.and_eq_true] at h
    exact ⟨_, _, rfl, h.2, fun r' ls' k => by simp [kindsOk, h.1, k]⟩
  · rename_i e; cases e
    exact ⟨_, _, rfl, h, fun r' ls' k => by simp [kindsOk, k]⟩
  · rename_i e; cases e
    exact ⟨_, _, rfl, h, fun r' ls' k => by simp [kindsOk, k]⟩
  · cases h
theorem kindsOk_split : ∀ {ys zs : List Ty} {ls : List Lf}, kindsOk (app ys zs) ls = true → kindsOk ys (ls.take ys.length) = true ∧ kindsOk zs (ls.drop ys.length) = true
  | [], _, _, h => ⟨by simp [kindsOk], by simpa [app] using h⟩
  | y :: ys, zs, ls, h => by
    obtain ⟨l, ls', rfl, h1, h2⟩ := kindsOk_cons (show kindsOk (y :: app ys zs) ls = true from h)
    have := kindsOk_split h1
    exact ⟨by simpa using h2 _ _ this.1, by simpa using this.2⟩
theorem eqLfs_len : ∀ {l r : List Lf} {c : Bool}, eqLfs l r = some c → l.length = r.length
  | [], [], _, _ => rfl
  | [], _ :: _, _, h => by simp [eqLfs] at h
  | a :: l, r, c, h => by
    unfold eqLfs at h
    split at h
    · rename_i e; cases e
    · rename_i e; cases e
      split at h
      · split at h
        · rename_i hc; simp [eqLfs_len hc]
        · cases h
      · cases h
    · rename_i e; cases e
      split at h
      · rename_i hc; simp [eqLfs_len hc]
      · cases h
    · rename_i e; cases e
      split at h
      · rename_i hc; simp [eqLfs_len hc]
      · cases h
    · cases h
theorem leaves_len : ∀ y : Ty, y.leaves.length = y.sz
  | .int _ => rfl
  | .bool => rfl
  | .str => rfl
  | .slice _ _ => rfl
  | .unit => rfl
  | .pair a b => by simp [Ty.leaves, Ty.sz, app_eq, leaves_len a, leaves_len b]
theorem tyOf_cons {y : Ty} {ys : List Ty} : (tyOf (y :: ys)).leaves = app y.leaves (tyOf ys).leaves := by
  cases ys with
  | nil => simp [tyOf, Ty.leaves, app_eq]
  | cons a r => rfl
theorem tyOf_sz {y : Ty} {ys : List Ty} : (tyOf (y :: ys)).sz = y.sz + (tyOf ys).sz := by
  cases ys with
  | nil => simp [tyOf, Ty.sz]
  | cons a r => rfl
theorem st_pair {t : TypeId} {fs : List Ty} {f : Array Field} (h : CellsOk P t (tyOf fs)) (hu : P.underlying t = some (.struct f)) : (tyOf fs).isPair = true := by
  have := h.agg
  unfold isStruct at this
  rw [hu] at this
  exact this.symm
theorem run_equalIn (hT : TOk P T) {tb : Tb} {W : Wit} {w w0 : World} : ∀ (n d : Nat) (t : TypeId) (as bs : List Value) (l r : List Lf) (c : Bool), n ≤ d → eqTy P T n t = true →
    kindsOk (te T t).d.ty.leaves l = true → LfsRep E tb W w l as → LfsRep E tb W w r bs → eqLfs l r = some c →
    (Op.equalIn d t (mkV (te T t).d.ty.isPair as) (mkV (te T t).d.ty.isPair bs)).run P w0 = .ok c w0
  | 0, _, _, _, _, _, _, _, _, h, _, _, _, _ => by simp [eqTy] at h
  | n + 1, 0, _, _, _, _, _, _, hd, _, _, _, _, _ => by omega
  | n + 1, d + 1, t, as, bs, l, r, c, hd, h, hk, hl, hr, he => by
    unfold eqTy at h
    have hent := entOk_ok (hT t)
    split at h
    · rename_i k e
      rw [e] at hk hent ⊢
      have hu : P.underlying t = some (.int k) := by cases hent.1 with | int _ h => exact h
      unfold eqLfs at he
      split at he
      · simp [TD.ty, Ty.leaves, kindsOk] at hk
      · rename_i k1 p l1 k2 q r1
        simp only [TD.ty, Ty.leaves] at hk
        unfold kindsOk at hk
        simp only [Bool.and_eq_true] at hk
        have : l1 = [] := by have := kindsOk_len hk.2; simpa using this
        subst this
        split at he
        · rename_i hkk
          split at he
          · rename_i c' hc
            cases r1 with
            | cons _ _ => simp [eqLfs] at hc
            | nil =>
              simp only [eqLfs] at hc
              cases hc; cases he
              obtain ⟨u, rfl, hx⟩ := LfsRep_of_one hl
              obtain ⟨v, rfl, hy⟩ := LfsRep_of_one hr
              rw [show u = _ from hx.1, show v = _ from hy.1, ikEq_eq hkk]
              simp only [mkV, TD.ty, Ty.isPair, Bool.false_eq_true, if_false, List.getD_cons_zero, Bool.and_true]
              exact run_equalIn_int w0 d t k2 k p q hu
          · cases he
        · cases he
      · simp [TD.ty, Ty.leaves, kindsOk] at hk
      · simp [TD.ty, Ty.leaves, kindsOk] at hk
      · cases he
    · rename_i e
      rw [e] at hk hent ⊢
      have hu : P.underlying t = some .bool := by cases hent.1 with | bool h => exact h
      unfold eqLfs at he
      split at he
      · simp [TD.ty, Ty.leaves, kindsOk] at hk
      · simp [TD.ty, Ty.leaves, kindsOk] at hk
      · rename_i p l1 q r1
        simp only [TD.ty, Ty.leaves] at hk
        unfold kindsOk at hk
        have : l1 = [] := by have := kindsOk_len hk; simpa using this
        subst this
        split at he
        · rename_i c' hc
          cases r1 with
          | cons _ _ => simp [eqLfs] at hc
          | nil =>
            simp only [eqLfs] at hc
            cases hc; cases he
            obtain ⟨u, rfl, hx⟩ := LfsRep_of_one hl
            obtain ⟨v, rfl, hy⟩ := LfsRep_of_one hr
            rw [show u = _ from hx, show v = _ from hy]
            simp only [mkV, TD.ty, Ty.isPair, Bool.false_eq_true, if_false, List.getD_cons_zero, Bool.and_true]
            exact run_equalIn_bool' w0 d t p q hu
        · cases he
      · simp [TD.ty, Ty.leaves, kindsOk] at hk
      · cases he
    · rename_i e
      rw [e] at hk hent ⊢
      have hu : P.underlying t = some .string := by cases hent.1 with | str h => exact h
      unfold eqLfs at he
      split at he
      · simp [TD.ty, Ty.leaves, kindsOk] at hk
      · simp [TD.ty, Ty.leaves, kindsOk] at hk
      · simp [TD.ty, Ty.leaves, kindsOk] at hk
      · rename_i p l1 q r1
        simp only [TD.ty, Ty.leaves] at hk
        unfold kindsOk at hk
        have : l1 = [] := by have := kindsOk_len hk; simpa using this
        subst this
        split at he
        · rename_i c' hc
          cases r1 with
          | cons _ _ => simp [eqLfs] at hc
          | nil =>
            simp only [eqLfs] at hc
            cases hc; cases he
            obtain ⟨u, rfl, hx⟩ := LfsRep_of_one hl
            obtain ⟨v, rfl, hy⟩ := LfsRep_of_one hr
            rw [show u = _ from hx.1, show v = _ from hy.1]
            simp only [mkV, TD.ty, Ty.isPair, Bool.false_eq_true, if_false, List.getD_cons_zero, Bool.and_true]
            rw [beq_toListBytes]
            exact run_equalIn_string w0 d t p q hu
        · cases he
      · cases he
    · rename_i fs e
      split at h
      · rename_i fl hu
        simp only [Bool.and_eq_true, Bool.not_eq_true'] at h
        rw [e] at hk hent ⊢
        have hf : fieldsOk P fl.toList fs 0 = true := by
          cases hent.1 with
          | st _ f' hu' hf' => rw [hu] at hu'; cases hu'; exact hf'
        have hc : CellsOk P t (tyOf fs) := by
          rcases hent.2 with h' | h'
          · cases h'
          · exact h'
        have hp := st_pair hc hu
        simp only [TD.ty, hp] at hk ⊢
        simp only [mkV, if_true]
        have hfo : P.fieldsOf t = fl := by simp [Program.fieldsOf, hu]
        rw [run_equalIn_struct w0 d t as.toArray bs.toArray (by rw [hfo]; exact hu) h.1, hfo]
        -- the fields, one by one
        have key : ∀ (fl : List Field) (fs : List Ty) (o : Nat) (l r : List Lf) (c : Bool), fieldsOk P fl fs o = true → eqFs T (eqTy P T n) fl fs = true → kindsOk (tyOf fs).leaves l = true → eqLfs l r = some c →
            LfsRep E tb W w l (as.drop o) → LfsRep E tb W w r (bs.drop o) → (Op.eqFields d as.toArray bs.toArray fl).run P w0 = .ok c w0 := by
          intro fl
          induction fl with
          | nil =>
            intro fs o l r c hf hq hk he _ _
            cases fs with
            | cons _ _ => simp [fieldsOk] at hf
            | nil =>
              have : l = [] := by have := kindsOk_len hk; simpa [tyOf, Ty.leaves] using this
              subst this
              cases r with
              | cons _ _ => simp [eqLfs] at he
              | nil => simp only [eqLfs] at he; cases he; rfl
          | cons f fl ih =>
            intro fs o l r c hf hq hk he hl hr
            cases fs with
            | nil => simp [fieldsOk] at hf
            | cons y ys =>
              simp only [fieldsOk, Bool.and_eq_true] at hf
              obtain ⟨⟨⟨f1, f2⟩, f3⟩, f4⟩ := hf
              simp only [eqFs, Bool.and_eq_true] at hq
              obtain ⟨q1, q2, q3, q4, q5⟩ := hq
              have hy := Ty.beq_eq q2
              have hz : 0 < y.sz := by have := f3; simp [Nat.blt] at this; omega
              rw [tyOf_cons] at hk
              obtain ⟨k1, k2⟩ := kindsOk_split hk
              rw [leaves_len] at k1 k2
              have hll : l.length = y.sz + (tyOf ys).sz := by
                have := kindsOk_len hk
                rw [app_eq, List.length_append, leaves_len, leaves_len] at this
                exact this
              have hlen : l.length = r.length := eqLfs_len he
              have he' := he
              rw [← List.take_append_drop y.sz l, ← List.take_append_drop y.sz r] at he'
              obtain ⟨c1, c2, e1, e2, rfl⟩ := eqLfs_split (by simp [List.length_take, hlen]) he'
              have lasl := LfsRep_len hl
              have lasr := LfsRep_len hr
              simp only [List.length_drop] at lasl lasr
              have g1 := run_part (w := w0) (cellsOk_ok f2) hz (cs := as.toArray) (o := o) (by simp; omega)
              have g2 := run_part (w := w0) (cellsOk_ok f2) hz (cs := bs.toArray) (o := o) (by simp; omega)
              have h1 := run_equalIn hT (w0 := w0) n d f.type ((as.drop o).take y.sz) ((bs.drop o).take y.sz) (l.take y.sz) (r.take y.sz) c1 (by omega) q4 (by rw [hy]; exact k1) (LfsRep_take _ hl) (LfsRep_take _ hr) e1
              rw [hy] at h1
              simp only [Op.eqFields]
              rw [if_pos (name_ne q1), Sem.run_bind, Nat.eq_of_beq_eq_true f1, g1]
              simp only [Result.andThen]
              rw [Sem.run_bind, g2]
              simp only [Result.andThen]
              rw [Sem.run_bind]
              rw [h1]
              simp only [Result.andThen]
              cases c1 with
              | false => simp
              | true =>
                simp only [Bool.not_true, Bool.false_eq_true, if_false, Bool.true_and]
                refine ih ys (o + y.sz) _ _ c2 f4 q5 k2 e2 ?_ ?_
                · have := LfsRep_drop y.sz hl; rwa [List.drop_drop] at this
                · have := LfsRep_drop y.sz hr; rwa [List.drop_drop] at this
        exact key fl.toList fs 0 l r c hf h.2 hk he (by simpa using hl) (by simpa using hr)
      · cases h
    · cases h

theorem op_bin_agg (hT : TOk P T) {s : St} {o : Oper} {op : BinOp} (hop : op = .eql ∨ op = .neq) {xt yt : TypeId} {x y : Operand} (e : o.op = .binOp op xt x y yt) (hx : okOperand x = true) (hy : okOperand y = true) (hb : okBin P T o = true)
    {a b : List Lf} {g g' : Option (Nat × Nat)} {t t' : Ty} (h1 : ev s t x = some (.agg a g)) (h2 : ev s t' y = some (.agg b g')) (hk : kindsOk (te T xt).d.ty.leaves a = true) {c : Bool} (he : eqLfs a b = some c) (hag : (te T xt).d.agg = true) :
    OpOk E P o s (s.put o.dst (.one (.bool (if op = .eql then c else !c)))) := by
  refine OpOk.value fun act w W hs => ?_
  obtain ⟨cs, ex, kx, _⟩ := ev_rep h1 hx hs
  obtain ⟨ds, ey, ky, _⟩ := ev_rep h2 hy hs
  obtain ⟨fs, hfs⟩ : ∃ fs, (te T xt).d = .st fs := by
    cases hd : (te T xt).d with
    | st fs => exact ⟨fs, rfl⟩
    | _ => rw [hd] at hag; cases hag
  have hq : P.eqGuardType P.depth xt = false ∧ eqTy P T 12 xt = true := by
    unfold okBin at hb
    rw [e] at hb
    rcases hop with rfl | rfl <;> simp only [hfs, Bool.and_eq_true, Bool.not_eq_true'] at hb <;> exact hb
  have hent := entOk_ok (hT xt)
  rw [hfs] at hent
  obtain ⟨fl, hu⟩ : ∃ fl, P.underlying xt = some (.struct fl) := by cases hent.1 with | st _ f h _ => exact ⟨f, h⟩
  have hp : (te T xt).d.ty.isPair = true := by
    rw [hfs]
    rcases hent.2 with h' | h'
    · cases h'
    · exact st_pair h' hu
  have hrun := run_equalIn hT (w0 := w) 12 10000 xt cs.toList ds.toList a b c (by omega) hq.2 hk kx ky he
  simp only [hp, mkV, if_true, Array.toArray_toList] at hrun
  rcases hop with rfl | rfl
  · refine ⟨.bool c, exec_bin o e _ ?_, by simp; exact ⟨rfl, rfl⟩⟩
    rw [ex, ey, Sem.run_bind, run_eqGuard_agg w .eql xt x y cs ds hq.1]
    simp only [Result.andThen]
    rw [run_eql_struct, hrun]
    rfl
  · refine ⟨.bool (!c), exec_bin o e _ ?_, by simp; exact ⟨rfl, rfl⟩⟩
    rw [ex, ey, Sem.run_bind, run_eqGuard_agg w .neq xt x y cs ds hq.1]
    simp only [Result.andThen]
    rw [run_neq_struct, hrun]
    rfl

theorem eff_bin (hT : TOk P T) {Γ : List (Nat × Ctr)} {s s' : St} {o : Oper} (hok : okOper o = true) (hb : okBin P T o = true) {op : BinOp} {xt yt : TypeId} {x y : Operand} (e : o.op = .binOp op xt x y yt) (h : (eff T Γ s o).opt = some s') : OpOk E P o s s' := by
  unfold eff at h
  unfold okOper at hok
  simp only [e, Bool.and_eq_true] at h hok
  obtain ⟨hx, hy⟩ := hok
  split at h
  rotate_left
  · cases h
  rename_i a b ha hb'
  unfold doBin at h
  have chk : ∀ {r : Option (Option Bool × Lf)}, (match r with
      | some (some c, l) => Eff.chk c (s.put o.dst (.one l)) | some (none, l) => .nxt (s.put o.dst (.one l)) | none => .bad).opt = some s' → chkd s o.dst r = some s' := by
    intro r hr
    unfold chkd
    split at hr
    · simp only [Eff.opt] at hr
      split at hr
      · rename_i hc; simp [chkOk, hc]; simpa using hr
      · cases hr
    · simp only [Eff.opt] at hr; simpa [chkOk] using hr
    · cases hr
  split at h
  · rename_i k p k' q
    split at h
    · exact op_shift (.inl rfl) e hx hy ha hb' (chk h)
    · exact op_shift (.inr rfl) e hx hy ha hb' (chk h)
    · split at h
      · rename_i hk
        obtain rfl := ikEq_eq hk
        exact op_bin_int e hx hy ha hb' (chk h)
      · cases h
  · exact op_bin_str e hx hy ha hb' (chk h)
  · split at h
    · rename_i hd
      cases h
      exact op_bin_bool (.inl rfl) e hx hy (bool_ent hT hd) ha hb'
    · rename_i hd
      cases h
      exact op_bin_bool (.inr rfl) e hx hy (bool_ent hT hd) ha hb'
    · cases h
  · split at h
    rotate_left
    · cases h
    rename_i hc
    simp only [Bool.and_eq_true] at hc
    split at h
    rotate_left
    · cases h
    rename_i c hc'
    split at h
    · cases h
      exact op_bin_agg hT (.inl rfl) e hx hy hb ha hb' hc.2 hc' hc.1
    · cases h
      exact op_bin_agg hT (.inr rfl) e hx hy hb ha hb' hc.2 hc' hc.1
    · cases h
  · cases h

theorem eff_builtin (hT : TOk P T) (hBy : ∀ e, E.By e = (te T e).bytes) {Γ : List (Nat × Ctr)} {s s' : St} {o : Oper} (hok : okOper o = true) {b : Builtin} {args : Array Operand} {tys : Array TypeId}
    (e : o.op = .call { callee := .builtin b, args := args, argTypes := tys }) (h : (eff T Γ s o).opt = some s') : OpOk E P o s s' := by
  unfold eff at h
  unfold okOper at hok
  simp only [e] at h hok
  have hmem := okOperands_mem hok
  unfold doBuiltin at h
  split at h
  · rename_i x t e1 e2
    have e1' : args = #[x] := by rw [← Array.toList_inj, e1]
    have e2' : tys = #[t] := by rw [← Array.toList_inj, e2]
    subst e1' e2'
    unfold doLen at h
    split at h
    · rename_i hd hv; cases h; exact op_len_str hT e (hmem x (by simp)) hd hv
    · rename_i hd hv
      split at h
      · rename_i r hr; cases h; exact op_len_slice hT e (hmem x (by simp)) hd hv hr
      · cases h
    · cases h
  · rename_i x y t t' e1 e2
    have e1' : args = #[x, y] := by rw [← Array.toList_inj, e1]
    have e2' : tys = #[t, t'] := by rw [← Array.toList_inj, e2]
    subst e1' e2'
    split at h
    · rename_i htt
      obtain rfl := Nat.eq_of_beq_eq_true htt
      split at h
      · rename_i a b ha hb; exact op_append hT hBy e (hmem x (by simp)) (hmem y (by simp)) ha hb h
      · cases h
    · cases h
  · rename_i x y t t' e1 e2
    have e1' : args = #[x, y] := by rw [← Array.toList_inj, e1]
    subst e1'
    split at h
    · rename_i k a k' b ha hb
      split at h
      · rename_i hk; cases h; exact op_max e (hmem x (by simp)) (hmem y (by simp)) ha hb (ikEq_eq hk)
      · cases h
    · cases h
  · rename_i x y t t' e1 e2
    have e1' : args = #[x, y] := by rw [← Array.toList_inj, e1]
    subst e1'
    split at h
    · rename_i k a k' b ha hb
      split at h
      · rename_i hk; cases h; exact op_min e (hmem x (by simp)) (hmem y (by simp)) ha hb (ikEq_eq hk)
      · cases h
    · cases h
  · cases h
end
end Go.Ri
/- The way through the code of a function, given what its operations do. -/
namespace Go.Ri

/-! ### places in the code -/
inductive Pos (root : Code) : Code → List Item → Prop
  | top : Pos root root []
  | seqL {a b : Code} {k : List Item} : Pos root (.seq a b) k → Pos root a (.code b :: k)
  | seqR {a b : Code} {k : List Item} : Pos root (.seq a b) k → Pos root b k
  | condL {c : Operand} {a b : Code} {k : List Item} : Pos root (.cond c a b) k → Pos root a k
  | condR {c : Operand} {a b : Code} {k : List Item} : Pos root (.cond c a b) k → Pos root b k
  | block {id : Nat} {c : Code} {k : List Item} : Pos root (.block id c) k → Pos root c (.inBlock id :: k)
  | loop {c : Code} {k : List Item} : Pos root (.loop c) k → Pos root c (.inLoop c :: k)
  | scope {c : Code} {k : List Item} : Pos root (.scope c) k → Pos root c (.inScope c :: k)
def finds (n : Nat) : Code → List Item → List (List Item)
  | .seq a b, k => finds n a (.code b :: k) ++ finds n b k
  | .cond _ a b, k => finds n a k ++ finds n b k
  | .block id c, k => finds n c (.inBlock id :: k)
  | .loop c, k => finds n c (.inLoop c :: k)
  | .scope c, k => finds n c (.inScope c :: k)
  | .region id ops d, k => if id = n then [.code (.region id ops d) :: k] else []
  | _, _ => []
/-- how often a region's number occurs -/
def cntR (n : Nat) : Code → Nat
  | .seq a b => cntR n a + cntR n b
  | .cond _ a b => cntR n a + cntR n b
  | .block _ c | .loop c | .scope c => cntR n c
  | .region id _ _ => if Nat.beq id n then 1 else 0
  | _ => 0
theorem finds_len (n : Nat) : ∀ (c : Code) (k : List Item), (finds n c k).length = cntR n c
  | .seq a b, k => by simp [finds, cntR, finds_len n a, finds_len n b]
  | .cond _ a b, k => by simp [finds, cntR, finds_len n a, finds_len n b]
  | .block id c, k => by simp [finds, cntR, finds_len n c]
  | .loop c, k => by simp [finds, cntR, finds_len n c]
  | .scope c, k => by simp [finds, cntR, finds_len n c]
  | .region id ops d, k => by
    simp only [finds, cntR]
    by_cases h : id = n
    · simp [h]
    · rw [if_neg h, if_neg (by intro e; exact h (Nat.eq_of_beq_eq_true e))]; rfl
  | .skip, _ | .exit _, _ | .goto _, _ | .label _, _ | .ret, _ | .rangeFunc _ _ _ _, _ | .refuse _, _ => rfl
theorem Pos.finds {root c : Code} {k : List Item} {n : Nat} (h : Pos root c k) : ∀ x, x ∈ finds n c k → x ∈ Ri.finds n root [] := by
  induction h with
  | top => exact fun _ h => h
  | seqL _ ih => exact fun x hx => ih x (List.mem_append_left _ hx)
  | seqR _ ih => exact fun x hx => ih x (List.mem_append_right _ hx)
  | condL _ ih => exact fun x hx => ih x (List.mem_append_left _ hx)
  | condR _ ih => exact fun x hx => ih x (List.mem_append_right _ hx)
  | block _ ih => exact ih
  | loop _ ih => exact ih
  | scope _ ih => exact ih
theorem todoAt_finds {n : Nat} : ∀ {g : Nat} {c : Code} {k td : List Item}, todoAt n g c k = some td → td ∈ finds n c k
  | 0, _, _, _, h => by simp [todoAt] at h
  | g + 1, .seq a b, k, td, h => by
    simp only [todoAt] at h
    split at h
    · rename_i r hr; cases h; exact List.mem_append_left _ (todoAt_finds hr)
    · exact List.mem_append_right _ (todoAt_finds h)
  | g + 1, .cond _ a b, k, td, h => by
    simp only [todoAt] at h
    split at h
    · rename_i r hr; cases h; exact List.mem_append_left _ (todoAt_finds hr)
    · exact List.mem_append_right _ (todoAt_finds h)
  | g + 1, .block id c, k, td, h => todoAt_finds (c := c) h
  | g + 1, .loop c, k, td, h => todoAt_finds (c := c) h
  | g + 1, .scope c, k, td, h => todoAt_finds (c := c) h
  | g + 1, .region id ops d, k, td, h => by
    simp only [todoAt] at h
    split at h
    · rename_i e
      cases h
      simp [finds, Nat.eq_of_beq_eq_true e]
    · cases h
  | g + 1, .skip, _, _, h | g + 1, .exit _, _, _, h | g + 1, .goto _, _, _, h | g + 1, .label _, _, _, h | g + 1, .ret, _, _, h | g + 1, .rangeFunc _ _ _ _, _, _, h | g + 1, .refuse _, _, _, h => by simp [todoAt] at h
theorem one_mem {α : Type} {l : List α} (h : l.length ≤ 1) {a b : α} (ha : a ∈ l) (hb : b ∈ l) : a = b := by
  match l, h with
  | [], _ => cases ha
  | [x], _ => simp at ha hb; rw [ha, hb]
theorem Pos.unique {root : Code} {n g : Nat} (h : cntR n root ≤ 1) {td : List Item} (ht : todoAt n g root [] = some td) {ops : Array Oper} {d : Bool} {k : List Item} (hp : Pos root (.region n ops d) k) : td = .code (.region n ops d) :: k :=
  one_mem (by rw [finds_len]; exact h) (todoAt_finds ht) (hp.finds _ (by simp [Ri.finds]))

def Wf (root : Code) : List Item → Prop
  | [] => True
  | .code c :: k => Pos root c k ∧ Wf root k
  | .inLoop c :: k => Pos root c (.inLoop c :: k) ∧ Wf root k
  | _ :: k => Wf root k
theorem Wf.exit {root : Code} {id : Nat} : ∀ {k k' : List Item}, exitTo id k = some k' → Wf root k → Wf root k' := by
  intro k
  induction k with
  | nil => intro k' h _; simp [exitTo] at h
  | cons x k ih =>
    intro k' h hw
    have hk : Wf root k := by
      cases x with
      | code c => exact hw.2
      | inLoop c => exact hw.2
      | _ => exact hw
    cases x with
    | inBlock i =>
      simp only [exitTo] at h
      split at h
      · cases h; exact hk
      · exact ih h hk
    | _ => simp only [exitTo] at h; exact ih h hk

/-- every region is such as it should be -/
def allRegs (p : Array Oper → Bool → Bool) : Code → Bool
  | .seq a b => allRegs p a && allRegs p b
  | .cond _ a b => allRegs p a && allRegs p b
  | .block _ c | .loop c | .scope c => allRegs p c
  | .region _ ops d => p ops d
  | _ => true
theorem Pos.allRegs {p : Array Oper → Bool → Bool} {root c : Code} {k : List Item} (h : Pos root c k) (hr : allRegs p root = true) : allRegs p c = true := by
  induction h with
  | top => exact hr
  | seqL _ ih => simp only [Ri.allRegs, Bool.and_eq_true] at ih; exact ih.1
  | seqR _ ih => simp only [Ri.allRegs, Bool.and_eq_true] at ih; exact ih.2
  | condL _ ih => simp only [Ri.allRegs, Bool.and_eq_true] at ih; exact ih.1
  | condR _ ih => simp only [Ri.allRegs, Bool.and_eq_true] at ih; exact ih.2
  | block _ ih => exact ih
  | loop _ ih => exact ih
  | scope _ ih => exact ih

/-! ### one operation, with its guard -/
theorem cps_opt {R : Type} {e : Eff} {K : St → Option R} {y : R} (h : e.cps K = some y) : ∃ s', e.opt = some s' ∧ K s' = some y := by
  cases e with
  | nxt s => exact ⟨s, rfl, h⟩
  | chk c s =>
    simp only [Eff.cps] at h
    split at h
    · rename_i hc; exact ⟨s, by simp [Eff.opt, hc], h⟩
    · cases h
  | cal R' o k =>
    simp only [Eff.cps] at h
    cases o with
    | none => cases h
    | some r => exact ⟨k r, rfl, h⟩
  | bad => cases h
theorem lnth_get {α : Type} : ∀ (l : List α) (i : Nat), lnth l i = l[i]?
  | [], i => by cases i <;> rfl
  | a :: l, 0 => rfl
  | a :: l, i + 1 => by simp [lnth, lnth_get l i]
theorem lset_self {α : Type} : ∀ {l : List (Option α)} {i : Nat} {v : α}, lget l i = some v → lset l i (some v) = l
  | [], _, _, h => by simp [lget] at h
  | a :: l, 0, v, h => by simp only [lget] at h; simp [lset, h]
  | a :: l, i + 1, v, h => by simp only [lget] at h; simp [lset, lset_self h]
theorem put_self {s : St} {d : Nat} {v : SV} (h : s.slot d = some v) : s.put (some d) v = s := by
  simp only [St.put]
  rw [lset_self h]
def stepO (T : List TE) (Γ : List (Nat × Ctr)) (all : List Oper) (s : St) (o : Oper) : Option St := match o.guard with
  | none => (eff T Γ s o).opt
  | some (j, want) => match dstOf (lnth all j) with
    | some d => match s.slot d with
      | some (.one (.bool b)) => if b = want then (eff T Γ s o).opt else some (s.undef o.dst)
      | some .und => some (s.undef o.dst)
      | _ => none
    | none => none
def stepsO (T : List TE) (Γ : List (Nat × Ctr)) (all : List Oper) : List Oper → St → Option St
  | [], s => some s
  | o :: r, s => (stepO T Γ all s o).bind (stepsO T Γ all r)
theorem boolLf_eq {v : Option SV} {b : Bool} (h : boolLf v = some b) : v = some (.one (.bool b)) := by
  unfold boolLf at h
  split at h
  · cases h; rfl
  · cases h
theorem rops_steps {T : List TE} {Γ : List (Nat × Ctr)} {R : Type} {all : List Oper} : ∀ {l : List Oper} {s : St} {K : St → Option R} {y : R}, rops T Γ all l s K = some y → ∃ s', stepsO T Γ all l s = some s' ∧ K s' = some y
  | [], s, K, y, h => ⟨s, rfl, h⟩
  | o :: r, s, K, y, h => by
    simp only [rops] at h
    split at h
    · rename_i hg
      obtain ⟨s1, h1, h2⟩ := cps_opt h
      obtain ⟨s', h3, h4⟩ := rops_steps h2
      exact ⟨s', by simp [stepsO, stepO, hg, h1, h3], h4⟩
    · rename_i j want hg
      split at h
      · rename_i d hd
        split at h
        · rename_i b hb
          have hs := boolLf_eq hb
          split at h
          · rename_i eb
            subst eb
            rw [put_self hs] at h
            cases want with
            | true =>
              simp only [if_true] at h
              obtain ⟨s1, h1, h2⟩ := cps_opt h
              obtain ⟨s', h3, h4⟩ := rops_steps h2
              exact ⟨s', by simp [stepsO, stepO, hg, hd, hs, h1, h3], h4⟩
            | false =>
              simp only [Bool.false_eq_true, if_false] at h
              obtain ⟨s', h3, h4⟩ := rops_steps h
              exact ⟨s', by simp [stepsO, stepO, hg, hd, hs, h3], h4⟩
          · rename_i eb
            have eb : b = false := by simpa using eb
            subst eb
            rw [put_self hs] at h
            cases want with
            | true =>
              simp only [if_true] at h
              obtain ⟨s', h3, h4⟩ := rops_steps h
              exact ⟨s', by simp [stepsO, stepO, hg, hd, hs, h3], h4⟩
            | false =>
              simp only [Bool.false_eq_true, if_false] at h
              obtain ⟨s1, h1, h2⟩ := cps_opt h
              obtain ⟨s', h3, h4⟩ := rops_steps h2
              exact ⟨s', by simp [stepsO, stepO, hg, hd, hs, h1, h3], h4⟩
        · split at h
          · rename_i hs
            obtain ⟨s', h3, h4⟩ := rops_steps h
            exact ⟨s', by simp [stepsO, stepO, hg, hd, hs, h3], h4⟩
          · cases h
      · cases h

/-! ### a call's surroundings -/
/-- One call of a function: what is known as its code is gone through. Res: what a result stands for. -/
structure Cx (R : Type) where
  P : Program
  T : List TE
  E : Env
  fn : Func
  root : Code
  pins : List Nat
  av : Nat → Option Value
  b : Frame
  cs : List Frame
  Res : R → Value → World → Prop
section
variable {R : Type} (C : Cx R)
structure Cx.Inv (s : St) (a : Act) (w : World) : Prop where
  sim : ∃ W, Sim C.E s a.tmps w W
  defers : a.defers = []
  pins : ∀ i, i ∈ C.pins → a.tmps[i]? = C.av i
def Cx.Goes (todo : List Item) (s : St) (y : R) : Prop := ∀ a w, C.Inv s a w → ∃ v w' fr, C.Res y v w' ∧ Steps C.P (lone (C.b.at a todo) C.cs w) (lone fr C.cs w') ∧ fr.fn = C.b.fn ∧ fr.leaving C.P w' (.returned v)
def Cx.CutOk (id : Nat) (f : St → Option R) : Prop := ∀ s y ops d k, Pos C.root (.region id ops d) k → Wf C.root k → f s = some y → C.Goes (.code (.region id ops d) :: k) s y
def Cx.CutsOk (l : List (Nat × (St → Option R))) : Prop := ∀ p, p ∈ l → C.CutOk p.1 p.2
theorem Cx.CutsOk.nil : C.CutsOk [] := fun p h => by cases h
theorem Cx.CutsOk.cons {C : Cx R} {id : Nat} {f : St → Option R} {l : List (Nat × (St → Option R))} (h : C.CutOk id f) (k : C.CutsOk l) : C.CutsOk ((id, f) :: l) := fun p hp => by
  rcases List.mem_cons.1 hp with rfl | hp
  · exact h
  · exact k p hp
def Cx.RetOk (ret : St → Option R) : Prop := ∀ s y a w, ret s = some y → C.Inv s a w → ∃ v, (results C.fn a.tmps).run C.P w = .ok v w ∧ C.Res y v w
/-- a region's operations, in whatever order, lead where the text's order leads -/
def Cx.RegOk (Γ : List (Nat × Ctr)) (ops : Array Oper) (d : Bool) : Prop := ∀ s s' a w, stepsO C.T Γ ops.toList ops.toList s = some s' → C.Inv s a w → ∀ id k, ∃ a' w', C.Inv s' a' w' ∧ Steps C.P (lone (C.b.at a (.code (.region id ops d) :: k)) C.cs w) (lone (C.b.at a' k) C.cs w')
structure Cx.Ok (Γ : List (Nat × Ctr)) : Prop where
  fn : C.P.funcs[C.b.fn]? = some C.fn
  kind : C.b.kind = .normal
  regs : ∀ id ops d k, Pos C.root (.region id ops d) k → C.RegOk Γ ops d

theorem findK_mem {α : Type} : ∀ {l : List (Nat × α)} {n : Nat} {f : α}, findK l n = some f → ∃ p, p ∈ l ∧ p.1 = n ∧ p.2 = f
  | (m, c) :: r, n, f, h => by
    simp only [findK] at h
    split at h
    · rename_i e; cases h; exact ⟨_, List.mem_cons_self .., Nat.eq_of_beq_eq_true e, rfl⟩
    · obtain ⟨p, h1, h2⟩ := findK_mem h; exact ⟨p, List.mem_cons_of_mem _ h1, h2⟩
theorem wf_code {root c : Code} {k : List Item} (h : Pos root c k) (hk : Wf root k) : Wf root (.code c :: k) := ⟨h, hk⟩
theorem wf_loop {root c : Code} {k : List Item} (h : Pos root c (.inLoop c :: k)) (hk : Wf root k) : Wf root (.inLoop c :: k) := ⟨h, hk⟩
theorem wf_scope {root c : Code} {k : List Item} (hk : Wf root k) : Wf root (.inScope c :: k) := hk
theorem wf_block {root : Code} {id : Nat} {k : List Item} (hk : Wf root k) : Wf root (.inBlock id :: k) := hk
theorem Cx.goes_step {C : Cx R} {todo todo' : List Item} {s : St} {y : R} (h : C.Goes todo' s y) (hs : ∀ a w, C.Inv s a w → step C.P (lone (C.b.at a todo) C.cs w) = .next (lone (C.b.at a todo') C.cs w)) : C.Goes todo s y := by
  intro a w hi
  obtain ⟨v, w', fr, h1, h2, h3⟩ := h a w hi
  exact ⟨v, w', fr, h1, .head (hs a w hi) h2, h3⟩
theorem Cx.goes_ret {C : Cx R} {Γ : List (Nat × Ctr)} (hC : C.Ok Γ) {ret : St → Option R} (hr : C.RetOk ret) {todo : List Item} {s : St} {y : R} (h : ret s = some y)
    (hs : ∀ a w, step C.P (lone (C.b.at a todo) C.cs w) = .next (lone { C.b.at a todo with mode := .returning } C.cs w)) : C.Goes todo s y := by
  intro a w hi
  obtain ⟨v, h1, h2⟩ := hr s y a w h hi
  exact ⟨v, w, _, h2, .one (hs a w), rfl, rfl, hi.defers, hC.kind, C.fn, hC.fn, h1⟩
/-- what a bool operand is -/
theorem boolLf_eval {E : Env} {s : St} {c : Operand} {t : Bool} (h : boolLf (ev s .bool c) = some t) (ho : okOperand c = true) {a : Act} {w : World} {W : Wit} (hs : Sim E s a.tmps w W) : a.eval c = .bool t := by
  have h := boolLf_eq h
  exact (ev_rep h ho hs).1
def okConds : Code → Bool
  | .seq a b => okConds a && okConds b
  | .cond c a b => okOperand c && (okConds a && okConds b)
  | .block _ c | .loop c | .scope c => okConds c
  | _ => true
theorem Pos.okConds {root c : Code} {k : List Item} (h : Pos root c k) (hr : okConds root = true) : okConds c = true := by
  induction h with
  | top => exact hr
  | seqL _ ih => simp only [Ri.okConds, Bool.and_eq_true] at ih; exact ih.1
  | seqR _ ih => simp only [Ri.okConds, Bool.and_eq_true] at ih; exact ih.2
  | condL _ ih => simp only [Ri.okConds, Bool.and_eq_true] at ih; exact ih.2.1
  | condR _ ih => simp only [Ri.okConds, Bool.and_eq_true] at ih; exact ih.2.2
  | block _ ih => exact ih
  | loop _ ih => exact ih
  | scope _ ih => exact ih

theorem Cx.region {C : Cx R} {Γ : List (Nat × Ctr)} (hC : C.Ok Γ) {id : Nat} {ops : Array Oper} {d : Bool} {k : List Item} (hp : Pos C.root (.region id ops d) k) {s : St} {y : R} {K : St → Option R} (h : rops C.T Γ ops.toList ops.toList s K = some y)
    (hK : ∀ s' y, K s' = some y → C.Goes k s' y) : C.Goes (.code (.region id ops d) :: k) s y := by
  obtain ⟨s', h1, h2⟩ := rops_steps h
  intro a w hi
  obtain ⟨a', w', hi', hst⟩ := hC.regs id ops d k hp s s' a w h1 hi id k
  obtain ⟨v, w2, fr, k1, k2, k3⟩ := hK s' y h2 a' w' hi'
  exact ⟨v, w2, fr, k1, hst.trans k2, k3⟩
theorem Cx.run_ok {C : Cx R} {Γ : List (Nat × Ctr)} (hC : C.Ok Γ) (hcond : okConds C.root = true) {ret : St → Option R} (hr : C.RetOk ret) {cuts : List (Nat × (St → Option R))} (hcuts : C.CutsOk cuts) :
    ∀ (n : Nat) (todo : List Item) (s : St) (y : R), Wf C.root todo → run C.T Γ ret cuts n todo s = some y → C.Goes todo s y
  | 0, _, _, _, _, h => by simp [run] at h
  | n + 1, todo, s, y, hw, h => by
    unfold run at h
    split at h
    · exact Cx.goes_ret hC hr h fun a w => step_end
    · exact Cx.goes_ret hC hr h fun a w => step_ret
    · exact Cx.goes_step (Cx.run_ok hC hcond hr hcuts n _ s y hw.2 h) fun a w _ => step_skip
    · rename_i k
      exact Cx.goes_step (Cx.run_ok hC hcond hr hcuts n _ s y (show Wf C.root k from hw) h) fun a w _ => step_inBlock
    · rename_i c k
      refine Cx.goes_step (Cx.run_ok hC hcond hr hcuts n _ s y (show Wf C.root k from hw) h) fun a w _ => ?_
      exact step_lone_go (by simp [stepG, stepG.exec, Frame.at])
    · rename_i p q k
      exact Cx.goes_step (Cx.run_ok hC hcond hr hcuts n _ s y (wf_code (.seqL hw.1) (wf_code (.seqR hw.1) hw.2)) h) fun a w _ => step_seq
    · rename_i c p q k
      split at h
      · rename_i v hv
        have ho := hw.1.okConds hcond
        simp only [okConds, Bool.and_eq_true] at ho
        split at h
        · rename_i e; subst e
          refine Cx.goes_step (Cx.run_ok hC hcond hr hcuts n _ s y (wf_code (.condL hw.1) hw.2) h) fun a w hi => ?_
          obtain ⟨W, hs⟩ := hi.sim
          exact step_cond (t := true) (boolLf_eval hv ho.1 hs)
        · rename_i e
          have e : v = false := by simpa using e
          subst e
          refine Cx.goes_step (Cx.run_ok hC hcond hr hcuts n _ s y (wf_code (.condR hw.1) hw.2) h) fun a w hi => ?_
          obtain ⟨W, hs⟩ := hi.sim
          exact step_cond (t := false) (boolLf_eval hv ho.1 hs)
      · cases h
    · exact Cx.goes_step (Cx.run_ok hC hcond hr hcuts n _ s y (wf_code (.block hw.1) (wf_block hw.2)) h) fun a w _ => step_block
    · exact Cx.goes_step (Cx.run_ok hC hcond hr hcuts n _ s y (wf_code (.loop hw.1) (wf_loop (.loop hw.1) hw.2)) h) fun a w _ => step_loop
    · exact Cx.goes_step (Cx.run_ok hC hcond hr hcuts n _ s y (wf_code hw.1 (wf_loop hw.1 hw.2)) h) fun a w _ => step_inLoop
    · refine Cx.goes_step (Cx.run_ok hC hcond hr hcuts n _ s y (wf_code (.scope hw.1) (wf_scope hw.2)) h) fun a w _ => ?_
      exact step_lone_go (by simp [stepG, stepG.exec, Frame.at])
    · split at h
      · rename_i k' hk
        exact Cx.goes_step (Cx.run_ok hC hcond hr hcuts n _ s y (hw.2.exit hk) h) fun a w _ => step_exit hk
      · cases h
    · rename_i id ops d k
      split at h
      · rename_i f hf
        obtain ⟨p, h1, rfl, rfl⟩ := findK_mem hf
        exact hcuts p h1 s y ops d k hw.1 hw.2 h
      · exact Cx.region hC hw.1 h fun s' y' h' => Cx.run_ok hC hcond hr hcuts n _ s' y' hw.2 h'
    · cases h

/-- a piece of the code, from a region on -/
theorem Cx.piece_ok {C : Cx R} {Γ : List (Nat × Ctr)} (hC : C.Ok Γ) (hcond : okConds C.root = true) {ret : St → Option R} (hr : C.RetOk ret) {cuts : List (Nat × (St → Option R))} (hcuts : C.CutsOk cuts) {N id : Nat} (h1 : cntR id C.root ≤ 1) :
    C.CutOk id fun s => runPiece C.T Γ ret cuts N id C.root s := by
  intro s y ops d k hp hw h
  simp only [runPiece] at h
  split at h
  · rename_i td ht
    obtain rfl := hp.unique h1 ht
    simp only [runAt] at h
    exact Cx.region hC hp h fun s' y' h' => Cx.run_ok hC hcond hr hcuts N _ s' y' hw h'
  · cases h
end
end Go.Ri
/- What a contract says of a call. -/
namespace Go.Ri
section
variable (By : TypeId → Nat)
/-- chosen cells are owned, the others read -/
def MixLs (w : World) (S : Nat → Prop) : List Nat → List Bool → List Value → List LV → Prop
  | B, [], [], [] => B = []
  | B, true :: m, v :: vs, l :: ls => ∃ B1 B2, B = B1 ++ B2 ∧ OwL By w B1 v l ∧ MixLs w S B2 m vs ls
  | B, false :: m, v :: vs, l :: ls => VwL By w S v l ∧ MixLs w S B m vs ls
  | _, _, _, _ => False
/-- What is given along with an argument: blocks that are handed over; where a pointer leads to. -/
structure Giv where
  bs : List Nat
  pc : Option (Nat × Nat)
def allB : List Giv → List Nat
  | [] => [] | g :: r => g.bs ++ allB r
def Giv.pb (g : Giv) : List Nat := match g.pc with
  | some (b, _) => [b] | none => []
def pcs : List Giv → List Nat
  | [] => [] | g :: r => g.pb ++ pcs r
def ArgOk (w : World) (S : Nat → Prop) : (p : PM) → p.ty.den → Value → Giv → Prop
  | .vw t, x, v, g => g.bs = [] ∧ g.pc = none ∧ ∃ cs, v = mkV t.isPair cs ∧ VwT By t w S cs x
  | .own t, x, v, g => g.pc = none ∧ ∃ cs, v = mkV t.isPair cs ∧ OwT By t w g.bs cs x
  | .mut t, x, v, g => g.pc = none ∧ ∃ cs, v = mkV t.isPair cs ∧ OwT By t w g.bs cs x ∧ (t.isPair = false → t.sz = 1)
  | .ptr t m, x, v, g => m.length = t.sz ∧ ∃ b off cells e, g.pc = some (b, off) ∧ v = .pointer (some ⟨b, off, none⟩) ∧ w.heap[b]? = some (.cells cells e (0, 0)) ∧ MixLs By w S g.bs m ((cells.toList.drop off).take t.sz) (t.out x)
  | .rp t, x, v, g => g.bs = [] ∧ g.pc = none ∧ ∃ a : Addr, v = .pointer (some a) ∧ S a.block ∧ ∃ cs, cs.length = t.sz ∧ CellsAt w a cs ∧ VwT By t w S cs x
  | .fn f ts, x, v, g => g.bs = [] ∧ g.pc = none ∧ ∃ c, v = .func (.func f) #[] c ∧ VwLs By w (fun _ => False) c.toList ((tyOf ts).out x)
def ArgsOk (w : World) (S : Nat → Prop) : (ps : List PM) → Tys.den (tysOf ps) → List Value → List Giv → Prop
  | [], _, [], [] => True
  | [p], x, [v], [g] => ArgOk By w S p x v g
  | p :: q :: r, x, v :: vs, g :: gs => ArgOk By w S p x.1 v g ∧ ArgsOk w S (q :: r) x.2 vs gs
  | _, _, _, _ => False
def MayP : List PM → List Giv → Nat → Nat → Prop
  | p :: ps, g :: gs, b, j => b ∈ g.bs ∨ (∃ t m off, p = .ptr t m ∧ g.pc = some (b, off) ∧ ∃ i, m.getD i false = true ∧ i < t.sz ∧ j = off + i) ∨ MayP ps gs b j
  | _, _, _, _ => False

def resV : List Ty → List Value → List Value
  | [], _ => []
  | t :: ts, cs => mkV t.isPair (cs.take t.sz) :: resV ts (cs.drop t.sz)
def tupV : List Value → Value
  | [v] => v | vs => .tuple vs.toArray
def slCells : List Ty → List Value → List Value
  | .slice _ _ :: ts, v :: vs => v :: slCells ts vs | _ :: ts, _ :: vs => slCells ts vs | _, _ => []
def pickV : List Bool → List Value → List Value
  | true :: m, v :: vs => v :: pickV m vs | false :: m, _ :: vs => pickV m vs | _, _ => []
/-- what comes back through an argument; O: its blocks -/
def OutOk (w' : World) (p : PM) (v : Value) (g : Giv) (l : List LV) (O : List Nat) : Prop := match p with
  | .mut t => OwLs By w' O (slCells t.leaves v.cells.toList) l
  | .ptr t m => ∃ b off cells e, g.pc = some (b, off) ∧ w'.heap[b]? = some (.cells cells e (0, 0)) ∧ OwLs By w' O (pickV m ((cells.toList.drop off).take t.sz)) l
  | _ => O = []
def OutsOk (w' : World) : List PM → List Value → List Giv → List LV → List (List Nat) → Prop
  | [], [], [], l, Os => l = [] ∧ Os = []
  | p :: ps, v :: vs, g :: gs, l, O :: Os => OutOk By w' p v g (l.take (outN p)) O ∧ OutsOk w' ps vs gs (l.drop (outN p)) Os
  | _, _, _, _, _ => False
/-- What is known when a call has returned. -/
structure RetOk (ps : List PM) (rs : List Ty) (vr bx : Bool) (w : World) (S : Nat → Prop) (args : List Value) (gs : List Giv) (y : Tys.den (app rs (outsOf ps))) (v : Value) (w' : World) : Prop where
  frame : Frame' (MayP ps gs) w w'
  res : ∃ (rcs : List Value) (nb Br : List Nat) (Os : List (List Nat)),
    (if bx = true then ∃ n off, nb = [n] ∧ v = .pointer (some ⟨n, off, none⟩) ∧ ∃ cs e, w'.heap[n]? = some (.cells cs e (0, 0)) ∧ off + szs rs ≤ cs.size ∧ (cs.toList.drop off).take (szs rs) = rcs else nb = [] ∧ v = tupV (resV rs rcs)) ∧
    (if vr = true then Br = [] ∧ pcs gs = [] ∧ VwLs By w' (fun b => b < w'.heap.size ∧ b ∉ nb ∧ (S b ∨ w.heap.size ≤ b ∨ b ∈ allB gs)) rcs ((Tys.out _ y).take (szs rs)) else OwLs By w' Br rcs ((Tys.out _ y).take (szs rs))) ∧
    OutsOk By w' ps args gs ((Tys.out _ y).drop (szs rs)) Os ∧
    (nb ++ (Br ++ List.flatten Os)).Nodup ∧ ∀ b, b ∈ nb ++ (Br ++ List.flatten Os) → w.heap.size ≤ b ∨ b ∈ allB gs
end
def rsOk : List Ty → Bool
  | [] => true | t :: r => (t.isPair || Nat.beq t.sz 1) && rsOk r
/-- a function that is entered when it is called -/
def Enters (P : Program) (f : FuncId) : Prop := ∃ fn, P.funcs[f]? = some fn ∧ (fn.name == "runtime.NumGoroutine") = false ∧ fn.body.isNone = false
/-- the meaning of a contract -/
def CtrOk (P : Program) (By : TypeId → Nat) (f : FuncId) (c : Ctr) : Prop :=
  (Enters P f ∧ rsOk c.rs = true) ∧ ∀ x y, c.F x = some y → ∀ (w : World) (S : Nat → Prop) (vs : List Value) (gs : List Giv), ArgsOk By w S c.ps x vs gs → (allB gs ++ pcs gs).Nodup → (∀ b, S b → b < w.heap.size ∧ b ∉ allB gs ++ pcs gs) →
    Calls P f vs.toArray w fun e w' => ∃ v, e = .returned v ∧ RetOk By c.ps c.rs c.vr c.bx w S vs gs y v w'
def CtrsOk (P : Program) (By : TypeId → Nat) (Γ : List (Nat × Ctr)) : Prop := ∀ p, p ∈ Γ → CtrOk P By p.1 p.2
theorem CtrsOk.nil {P : Program} {By : TypeId → Nat} : CtrsOk P By [] := fun p h => by cases h
theorem CtrsOk.cons {P : Program} {By : TypeId → Nat} {f : Nat} {c : Ctr} {Γ : List (Nat × Ctr)} (h : CtrOk P By f c) (k : CtrsOk P By Γ) : CtrsOk P By ((f, c) :: Γ) := fun p hp => by
  rcases List.mem_cons.1 hp with rfl | hp
  · exact h
  · exact k p hp
end Go.Ri
/- A function's beginning: the arguments stand for the state that it begins with. -/
namespace Go.Ri

/-! ### rows out of owned cells -/
abbrev RowsW := List (Value × List Nat)
def rwB : RowsW → List Nat
  | [] => [] | p :: r => p.2 ++ rwB r
theorem rwB_app : ∀ {a b : RowsW}, rwB (a ++ b) = rwB a ++ rwB b
  | [], _ => rfl
  | p :: a, b => by simp [rwB, rwB_app (a := a)]
theorem mem_rwB : ∀ {l : RowsW} {k : Nat} {p : Value × List Nat} {b : Nat}, l[k]? = some p → b ∈ p.2 → b ∈ rwB l
  | [], k, p, b, h, _ => by simp at h
  | q :: l, 0, p, b, h, hb => by simp at h; subst h; exact List.mem_append_left _ hb
  | q :: l, k + 1, p, b, h, hb => List.mem_append_right _ (mem_rwB (l := l) (k := k) (by simpa using h) hb)
theorem rwB_disj : ∀ {l : RowsW} {k k' : Nat} {p p' : Value × List Nat} {b : Nat}, (rwB l).Nodup → l[k]? = some p → l[k']? = some p' → k ≠ k' → b ∈ p.2 → b ∉ p'.2
  | [], k, _, p, _, _, _, h, _, _, _ => by simp at h
  | q :: l, 0, 0, _, _, _, _, _, _, hne, _ => absurd rfl hne
  | q :: l, 0, k' + 1, p, p', b, hn, h, h', _, hb => by
    simp at h; subst h
    intro hb'
    exact (List.nodup_append.1 hn).2.2 b hb b (mem_rwB (k := k') (by simpa using h') hb') rfl
  | q :: l, k + 1, 0, p, p', b, hn, h, h', _, hb => by
    simp at h'; subst h'
    intro hb'
    exact (List.nodup_append.1 hn).2.2 b hb' b (mem_rwB (k := k) (by simpa using h) hb) rfl
  | q :: l, k + 1, k' + 1, p, p', b, hn, h, h', hne, hb => rwB_disj (l := l) (List.nodup_append.1 hn).2.1 (by simpa using h) (by simpa using h') (by omega) hb
theorem rwB_nodup : ∀ {l : RowsW} {k : Nat} {p : Value × List Nat}, (rwB l).Nodup → l[k]? = some p → p.2.Nodup
  | [], k, _, _, h => by simp at h
  | q :: l, 0, p, hn, h => by simp at h; subst h; exact (List.nodup_append.1 hn).1
  | q :: l, k + 1, p, hn, h => rwB_nodup (l := l) (List.nodup_append.1 hn).2.1 (by simpa using h)

/-- rows that hold these -/
def RowsOk (By : TypeId → Nat) (w : World) : List (Option Row) → RowsW → Prop
  | [], [] => True
  | some x :: l, p :: r => (OwT By (.slice x.e x.t) w p.2 [p.1] x.xs ∧ x.n = x.xs.length) ∧ RowsOk By w l r
  | _, _ => False
theorem RowsOk.app {By : TypeId → Nat} {w : World} : ∀ {l m : List (Option Row)} {r q : RowsW}, RowsOk By w l r → RowsOk By w m q → RowsOk By w (app l m) (r ++ q)
  | [], _, [], _, _, h => h
  | some x :: l, _, p :: r, _, h, k => ⟨h.1, RowsOk.app h.2 k⟩
  | [], _, _ :: _, _, h, _ => h.elim
  | some _ :: _, _, [], _, h, _ => h.elim
  | none :: _, _, _, _, h, _ => by cases h
theorem RowsOk.len {By : TypeId → Nat} {w : World} : ∀ {l : List (Option Row)} {r : RowsW}, RowsOk By w l r → r.length = l.length
  | [], [], _ => rfl
  | some _ :: _, _ :: _, h => by simp [RowsOk.len h.2]
  | [], _ :: _, h => h.elim
  | some _ :: _, [], h => h.elim
  | none :: _, _, h => by cases h
theorem RowsOk.at {By : TypeId → Nat} {w : World} : ∀ {l : List (Option Row)} {r : RowsW} {k : Nat} {x : Row}, RowsOk By w l r → lget l k = some x → ∃ p, r[k]? = some p ∧ OwT By (.slice x.e x.t) w p.2 [p.1] x.xs ∧ x.n = x.xs.length
  | some y :: l, p :: r, 0, x, h, hx => by simp only [lget] at hx; cases hx; exact ⟨p, rfl, h.1⟩
  | some y :: l, p :: r, k + 1, x, h, hx => by
    obtain ⟨q, h1, h2⟩ := RowsOk.at (k := k) h.2 hx
    exact ⟨q, by simpa using h1, h2⟩
  | [], _, k, _, _, hx => by simp [lget] at hx
  | some _ :: _, [], _, _, h, _ => h.elim
  | none :: _, _, _, _, h, _ => by cases h
theorem RowsOk.has {By : TypeId → Nat} {w : World} : ∀ {l : List (Option Row)} {r : RowsW} {k : Nat} {p : Value × List Nat}, RowsOk By w l r → r[k]? = some p → ∃ x, lget l k = some x
  | some y :: l, p :: r, 0, _, h, hx => ⟨y, rfl⟩
  | some y :: l, p :: r, k + 1, q, h, hx => RowsOk.has (l := l) (k := k) h.2 (by simpa using hx)
  | [], [], k, _, _, hx => by simp at hx
  | [], _ :: _, _, _, h, _ => h.elim
  | some _ :: _, [], _, _, h, _ => h.elim
  | none :: _, _, _, _, h, _ => by cases h

/-- the rows of RB stand in the tables from number n on -/
def RowsAt (tb : Tb) (W : Wit) (n : Nat) (RB : RowsW) : Prop := ∀ k p, RB[k]? = some p → (∃ x, tb.row (n + k) = some x) ∧ W.rv (n + k) = p.1
theorem RowsAt.tail {tb : Tb} {W : Wit} {n : Nat} {p : Value × List Nat} {RB : RowsW} (h : RowsAt tb W n (p :: RB)) : RowsAt tb W (n + 1) RB := fun k q hq => by
  have := h (k + 1) q (by simpa using hq)
  rwa [show n + (k + 1) = n + 1 + k by omega] at this
theorem RowsAt.left {tb : Tb} {W : Wit} {n : Nat} {RB RC : RowsW} (h : RowsAt tb W n (RB ++ RC)) : RowsAt tb W n RB := fun k q hq => h k q (by rw [List.getElem?_append_left (List.getElem?_eq_some_iff.1 hq).1]; exact hq)
theorem RowsAt.right {tb : Tb} {W : Wit} {n : Nat} {RB RC : RowsW} (h : RowsAt tb W n (RB ++ RC)) : RowsAt tb W (n + RB.length) RC := fun k q hq => by
  have := h (RB.length + k) q (by rw [List.getElem?_append_right (by omega)]; simpa using hq)
  rwa [show n + (RB.length + k) = n + RB.length + k by omega] at this

theorem ow_slice {By : TypeId → Nat} {w : World} {B : List Nat} {v : Value} {e : TypeId} {t : Ty} {xs : List t.den} (h : OwT By (.slice e t) w B [v] xs) : v.oneCell' = true := by
  rcases h with ⟨e, _⟩ | ⟨_, _, _, _, e, _⟩
  · simp only [List.cons.injEq, and_true] at e; rw [e]; rfl
  · simp only [List.cons.injEq, and_true] at e; rw [e]; rfl
theorem VwL_frame {By : TypeId → Nat} {w w' : World} {S S' : Nat → Prop} {v : Value} {l : LV} (h : VwL By w S v l) (hf : ∀ b, S b → S' b ∧ w'.heap[b]? = w.heap[b]?) : VwL By w' S' v l := by
  cases l <;> exact VwT.frame By (w := w) (S := S) h hf
theorem VwLs_frame {By : TypeId → Nat} {w w' : World} {S S' : Nat → Prop} : ∀ {vs : List Value} {ls : List LV}, VwLs By w S vs ls → (∀ b, S b → S' b ∧ w'.heap[b]? = w.heap[b]?) → VwLs By w' S' vs ls
  | [], [], _, _ => trivial
  | _ :: _, _ :: _, h, hf => ⟨VwL_frame h.1 hf, VwLs_frame h.2 hf⟩
  | [], _ :: _, h, _ => h.elim
  | _ :: _, [], h, _ => h.elim
/-- owned cells as rows of their own -/
theorem fresh_ok {By : TypeId → Nat} {w : World} : ∀ {ls : List LV} {vs : List Value} {B : List Nat}, OwLs By w B vs ls → ∃ RB : RowsW, rwB RB = B ∧ RowsOk By w (freshRows ls) RB ∧
    ∀ (E : Env) (tb : Tb) (W : Wit) (w' : World) (n : Nat), RowsAt tb W n RB → LfsRep E tb W w' (freshLs n ls) vs
  | [], [], B, h => ⟨[], by rw [show B = [] from h]; rfl, trivial, fun _ _ _ _ _ _ => trivial⟩
  | l :: ls, v :: vs, B, h => by
    obtain ⟨B1, B2, rfl, h1, h2⟩ := h
    obtain ⟨RB, e1, e2, e3⟩ := fresh_ok h2
    cases l with
    | sl e t xs =>
      refine ⟨(v, B1) :: RB, by simp [rwB, e1], ⟨⟨h1, rfl⟩, e2⟩, fun E tb W w' n hr => ?_⟩
      obtain ⟨a1, a2⟩ := hr 0 _ rfl
      exact ⟨⟨⟨a1, a2.symm⟩, ow_slice h1⟩, e3 E tb W w' (n + 1) hr.tail⟩
    | int k z =>
      obtain ⟨h1, h3, rfl⟩ := h1
      simp only [List.cons.injEq, and_true] at h1
      exact ⟨RB, e1, e2, fun E tb W w' n hr => ⟨⟨⟨h1, h3⟩, by rw [h1]; rfl⟩, e3 E tb W w' n hr⟩⟩
    | bool b =>
      obtain ⟨h1, rfl⟩ := h1
      simp only [List.cons.injEq, and_true] at h1
      exact ⟨RB, e1, e2, fun E tb W w' n hr => ⟨⟨h1, by rw [h1]; rfl⟩, e3 E tb W w' n hr⟩⟩
    | str x =>
      obtain ⟨h1, h3, rfl⟩ := h1
      simp only [List.cons.injEq, and_true] at h1
      exact ⟨RB, e1, e2, fun E tb W w' n hr => ⟨⟨⟨h1, h3⟩, by rw [h1]; rfl⟩, e3 E tb W w' n hr⟩⟩
  | [], _ :: _, _, h => h.elim
  | _ :: _, [], _, h => h.elim
/-- the cells behind a pointer -/
theorem mix_ok {By : TypeId → Nat} {w : World} {S : Nat → Prop} : ∀ {m : List Bool} {ls : List LV} {vs : List Value} {B : List Nat}, MixLs By w S B m vs ls → ∃ RB : RowsW, rwB RB = B ∧ RowsOk By w (freshRows (pickLV m ls)) RB ∧ vs.length = m.length ∧
    ∀ (E : Env) (tb : Tb) (W : Wit) (n : Nat), E.By = By → RowsAt tb W n RB → (∀ b, S b → Vis E tb W w [] b) → LfsRep E tb W w (initPtr n m ls) vs
  | [], [], [], B, h => ⟨[], by rw [show B = [] from h]; rfl, trivial, rfl, fun _ _ _ _ _ _ _ => trivial⟩
  | true :: m, l :: ls, v :: vs, B, h => by
    obtain ⟨B1, B2, rfl, h1, h2⟩ := h
    obtain ⟨RB, e1, e2, e0, e3⟩ := mix_ok h2
    cases l with
    | sl e t xs =>
      refine ⟨(v, B1) :: RB, by simp [rwB, e1], ⟨⟨h1, rfl⟩, e2⟩, by simp [e0], fun E tb W n hB hr hS => ?_⟩
      obtain ⟨a1, a2⟩ := hr 0 _ rfl
      exact ⟨⟨⟨a1, a2.symm⟩, ow_slice h1⟩, e3 E tb W (n + 1) hB hr.tail hS⟩
    | int k z =>
      obtain ⟨h1, h3, rfl⟩ := h1
      simp only [List.cons.injEq, and_true] at h1
      exact ⟨RB, e1, e2, by simp [e0], fun E tb W n hB hr hS => ⟨⟨⟨h1, h3⟩, by rw [h1]; rfl⟩, e3 E tb W n hB hr hS⟩⟩
    | bool b =>
      obtain ⟨h1, rfl⟩ := h1
      simp only [List.cons.injEq, and_true] at h1
      exact ⟨RB, e1, e2, by simp [e0], fun E tb W n hB hr hS => ⟨⟨h1, by rw [h1]; rfl⟩, e3 E tb W n hB hr hS⟩⟩
    | str x =>
      obtain ⟨h1, h3, rfl⟩ := h1
      simp only [List.cons.injEq, and_true] at h1
      exact ⟨RB, e1, e2, by simp [e0], fun E tb W n hB hr hS => ⟨⟨⟨h1, h3⟩, by rw [h1]; rfl⟩, e3 E tb W n hB hr hS⟩⟩
  | false :: m, l :: ls, v :: vs, B, h => by
    obtain ⟨h1, h2⟩ := h
    obtain ⟨RB, e1, e2, e0, e3⟩ := mix_ok h2
    refine ⟨RB, e1, e2, by simp [e0], fun E tb W n hB hr hS => ?_⟩
    subst hB
    refine ⟨⟨lf_rep ?_, VwL_one h1⟩, e3 E tb W n rfl hr hS⟩
    exact VwL_frame h1 fun b hb => ⟨hS b hb, rfl⟩
  | [], [], _ :: _, _, h => by simp [MixLs] at h
  | [], _ :: _, _, _, h => by simp [MixLs] at h
  | true :: _, [], _, _, h => by simp [MixLs] at h
  | false :: _, [], _, _, h => by simp [MixLs] at h
  | true :: _, _ :: _, [], _, h => by simp [MixLs] at h
  | false :: _, _ :: _, [], _, h => by simp [MixLs] at h

/-! ### boxes of the parameters -/
def Giv.pa (g : Giv) : List Addr := match g.pc with
  | some (b, off) => [⟨b, off, none⟩] | none => []
def allA : List Giv → List Addr
  | [] => [] | g :: r => g.pa ++ allA r
theorem pcs_eq : ∀ gs : List Giv, pcs gs = (allA gs).map (·.block)
  | [] => rfl
  | g :: r => by
    simp only [pcs, allA, List.map_append, pcs_eq r]
    congr 1
    unfold Giv.pb Giv.pa
    cases g.pc <;> rfl
def BxAt (tb : Tb) (W : Wit) (n : Nat) (l : List Addr) : Prop := ∀ k a, l[k]? = some a → (∃ x, tb.box (n + k) = some x) ∧ W.bx (n + k) = a
theorem BxAt.left {tb : Tb} {W : Wit} {n : Nat} {a b : List Addr} (h : BxAt tb W n (a ++ b)) : BxAt tb W n a := fun k q hq => h k q (by rw [List.getElem?_append_left (List.getElem?_eq_some_iff.1 hq).1]; exact hq)
theorem BxAt.right {tb : Tb} {W : Wit} {n : Nat} {a b : List Addr} (h : BxAt tb W n (a ++ b)) : BxAt tb W (n + a.length) b := fun k q hq => by
  have := h (a.length + k) q (by rw [List.getElem?_append_right (by omega)]; simpa using hq)
  rwa [show n + (a.length + k) = n + a.length + k by omega] at this
def BxsOk (E : Env) (tb : Tb) (W : Wit) (w : World) : List (Option Bx) → List Addr → Prop
  | [], [] => True
  | some x :: l, a :: r => BxRep E tb W w x a ∧ BxsOk E tb W w l r
  | _, _ => False
theorem BxsOk.app {E : Env} {tb : Tb} {W : Wit} {w : World} : ∀ {l m : List (Option Bx)} {r q : List Addr}, BxsOk E tb W w l r → BxsOk E tb W w m q → BxsOk E tb W w (app l m) (r ++ q)
  | [], _, [], _, _, h => h
  | some x :: l, _, p :: r, _, h, k => ⟨h.1, BxsOk.app h.2 k⟩
  | [], _, _ :: _, _, h, _ => h.elim
  | some _ :: _, _, [], _, h, _ => h.elim
  | none :: _, _, _, _, h, _ => by cases h
theorem BxsOk.at {E : Env} {tb : Tb} {W : Wit} {w : World} : ∀ {l : List (Option Bx)} {r : List Addr} {k : Nat} {x : Bx}, BxsOk E tb W w l r → lget l k = some x → ∃ a, r[k]? = some a ∧ BxRep E tb W w x a
  | some y :: l, p :: r, 0, x, h, hx => by simp only [lget] at hx; cases hx; exact ⟨p, rfl, h.1⟩
  | some y :: l, p :: r, k + 1, x, h, hx => by
    obtain ⟨q, h1, h2⟩ := BxsOk.at (k := k) h.2 hx
    exact ⟨q, by simpa using h1, h2⟩
  | [], _, k, _, _, hx => by simp [lget] at hx
  | some _ :: _, [], _, _, h, _ => h.elim
  | none :: _, _, _, _, h, _ => by cases h

theorem app_nil {α : Type} : ∀ l : List α, app l [] = l
  | [] => rfl
  | a :: l => by simp [app, app_nil l]
theorem app_length {α : Type} (a b : List α) : (app a b).length = a.length + b.length := by rw [app_eq, List.length_append]
theorem app_assoc {α : Type} (a b c : List α) : app (app a b) c = app a (app b c) := by simp [app_eq]
theorem lk_at : ∀ {m : List Bool} {j : Nat}, j < m.length → (lmap (!·) m).getD j false = false → m.getD j false = true
  | b :: m, 0, _, h => by simpa [lmap] using h
  | b :: m, j + 1, hj, h => by
    have := lk_at (m := m) (j := j) (by simpa using hj) (by simpa [lmap] using h)
    simpa using this
  | [], j, hj, _ => by simp at hj

/-- one parameter -/
theorem initP_ok {By : TypeId → Nat} {w : World} {S : Nat → Prop} {p : PM} {x : p.ty.den} {v : Value} {g : Giv} (h : ArgOk By w S p x v g) (s : St) (i : Nat) :
    ∃ (RB : RowsW) (nr : List (Option Row)) (nb : List (Option Bx)) (sv : Option SV), initP s i p x = ⟨lset s.sl i sv, app s.bx nb, app s.rw nr⟩ ∧ rwB RB = g.bs ∧ RowsOk By w nr RB ∧ nb.length = g.pa.length ∧
      ∀ (E : Env) (tb : Tb) (W : Wit), E.By = By → (∀ b j, MayP [p] [g] b j → E.May b j) → RowsAt tb W s.rw.length RB → BxAt tb W s.bx.length g.pa → (∀ b, S b → Vis E tb W w [] b) →
        BxsOk E tb W w nb g.pa ∧ ∀ u, sv = some u → SVRep E tb W w u v := by
  cases p with
  | vw t =>
    obtain ⟨h1, h2, cs, rfl, h3⟩ := h
    refine ⟨[], [], [], mkSV t.isPair (lfs [] (t.out x)) none, by simp [initP, app_nil], h1.symm, trivial, by simp [Giv.pa, h2], fun E tb W hB hM hr hb hS => ⟨by simp [Giv.pa, h2, BxsOk], fun u hu => ?_⟩⟩
    subst hB
    exact (mkSV_rep hu (lfs_rep ((VwT_iff E.By).1 (VwT.frame E.By h3 fun b hb => ⟨hS b hb, rfl⟩))) (fun _ => trivial)).1
  | own t =>
    obtain ⟨h2, cs, rfl, h3⟩ := h
    obtain ⟨RB, e1, e2, e3⟩ := fresh_ok ((OwT_iff By).1 h3)
    refine ⟨RB, freshRows (t.out x), [], mkSV t.isPair (freshLs (llen s.rw) (t.out x)) none, by simp [initP, app_nil], e1, e2, by simp [Giv.pa, h2], fun E tb W hB hM hr hb hS => ⟨by simp [Giv.pa, h2, BxsOk], fun u hu => ?_⟩⟩
    rw [llen_eq] at hu
    exact (mkSV_rep hu (e3 E tb W w s.rw.length hr) (fun _ => trivial)).1
  | «mut» t =>
    obtain ⟨h2, cs, rfl, h3, _⟩ := h
    obtain ⟨RB, e1, e2, e3⟩ := fresh_ok ((OwT_iff By).1 h3)
    refine ⟨RB, freshRows (t.out x), [], mkSV t.isPair (freshLs (llen s.rw) (t.out x)) none, by simp [initP, app_nil], e1, e2, by simp [Giv.pa, h2], fun E tb W hB hM hr hb hS => ⟨by simp [Giv.pa, h2, BxsOk], fun u hu => ?_⟩⟩
    rw [llen_eq] at hu
    exact (mkSV_rep hu (e3 E tb W w s.rw.length hr) (fun _ => trivial)).1
  | ptr t m =>
    obtain ⟨h0, b, off, cells, e, h1, rfl, h2, h3⟩ := h
    obtain ⟨RB, e1, e2, e4, e3⟩ := mix_ok h3
    have hpa : g.pa = [⟨b, off, none⟩] := by simp [Giv.pa, h1]
    refine ⟨RB, freshRows (pickLV m (t.out x)), [some ⟨initPtr (llen s.rw) m (t.out x), lmap (!·) m⟩], some (.one (.pbox (llen s.bx) 0)), rfl, e1, e2, by simp [hpa], fun E tb W hB hM hr hb hS => ?_⟩
    have hl := e3 E tb W s.rw.length hB hr hS
    have hlen := LfsRep_len hl
    rw [hpa] at hb ⊢
    obtain ⟨k1, k2⟩ := hb 0 _ rfl
    rw [Nat.add_zero] at k1 k2
    refine ⟨⟨⟨rfl, ⟨cells, e, h2, ?_⟩, fun j hj hl' => .inr (hM _ _ (.inr (.inl ⟨t, m, off, rfl, h1, j, ?_, ?_, rfl⟩)))⟩, trivial⟩, fun u hu => ?_⟩
    · rw [llen_eq, hlen, e4, h0]; exact hl
    · rw [llen_eq] at hj
      dsimp only at hj
      exact lk_at (by omega) hl'
    · rw [llen_eq] at hj; dsimp only at hj; omega
    · cases hu
      rw [llen_eq]
      exact ⟨⟨k1, by rw [k2]; rfl⟩, rfl⟩
  | rp t =>
    obtain ⟨h1, h2, a, rfl, hSa, cs, h3, h4, h5⟩ := h
    refine ⟨[], [], [], some (.one (.pvw [] 0 t [x] 0 0)), by simp [initP, app_nil], h1.symm, trivial, by simp [Giv.pa, h2], fun E tb W hB hM hr hb hS => ⟨by simp [Giv.pa, h2, BxsOk], fun u hu => ?_⟩⟩
    cases hu
    subst hB
    exact ⟨⟨by simp, a, hS _ hSa, by rw [add_zero], cs, h3, h4, VwT.frame E.By h5 fun b hb => ⟨hS b hb, rfl⟩⟩, rfl⟩
  | fn f ts =>
    obtain ⟨h1, h2, c, rfl, h3⟩ := h
    refine ⟨[], [], [], some (.one (.fn f ((tyOf ts).out x))), by simp [initP, app_nil], h1.symm, trivial, by simp [Giv.pa, h2], fun E tb W hB hM hr hb hS => ⟨by simp [Giv.pa, h2, BxsOk], fun u hu => ?_⟩⟩
    cases hu
    subst hB
    exact ⟨⟨c, rfl, h3⟩, rfl⟩

theorem slot_lset (s : St) (i j : Nat) (v : Option SV) (bx : List (Option Bx)) (rw' : List (Option Row)) (hi : i < s.sl.length) : (⟨lset s.sl i v, bx, rw'⟩ : St).slot j = if i = j then v else s.slot j := by
  simp only [St.slot, lget_lset]
  by_cases h : i = j
  · subst h; simp [hi]
  · simp [h]
/-- all parameters -/
theorem initPs_ok {By : TypeId → Nat} {w : World} {S : Nat → Prop} : ∀ {ps : List PM} {x : Tys.den (tysOf ps)} {vs : List Value} {gs : List Giv} (h : ArgsOk By w S ps x vs gs) (s : St) (i : Nat), i + ps.length ≤ s.sl.length →
    ∃ (RB : RowsW) (nr : List (Option Row)) (nb : List (Option Bx)), (initPs s i ps x).bx = app s.bx nb ∧ (initPs s i ps x).rw = app s.rw nr ∧ (initPs s i ps x).sl.length = s.sl.length ∧ (∀ j, j < i ∨ i + ps.length ≤ j → (initPs s i ps x).slot j = s.slot j) ∧ vs.length = ps.length ∧
      rwB RB = allB gs ∧ RowsOk By w nr RB ∧ nb.length = (allA gs).length ∧
      ∀ (E : Env) (tb : Tb) (W : Wit), E.By = By → (∀ b j, MayP ps gs b j → E.May b j) → RowsAt tb W s.rw.length RB → BxAt tb W s.bx.length (allA gs) → (∀ b, S b → Vis E tb W w [] b) →
        BxsOk E tb W w nb (allA gs) ∧ ∀ j u, i ≤ j → j < i + ps.length → (initPs s i ps x).slot j = some u → ∃ v, vs[j - i]? = some v ∧ SVRep E tb W w u v
  | [], x, [], [], _, s, i, _ => ⟨[], [], [], by simp [initPs, app_nil], by simp [initPs, app_nil], rfl, fun _ _ => rfl, rfl, rfl, trivial, rfl, fun E tb W _ _ _ _ _ => ⟨trivial, fun j u h1 h2 => by simp at h2; omega⟩⟩
  | [p], x, [v], [g], h, s, i, hi => by
    obtain ⟨RB, nr, nb, sv, e0, e1, e2, e3, e4⟩ := initP_ok (show ArgOk By w S p x v g from h) s i
    have hi' : i < s.sl.length := by simp at hi; omega
    have hsl : ∀ j, (initPs s i [p] x).slot j = if i = j then sv else s.slot j := fun j => by
      show (initP s i p x).slot j = _
      rw [e0]; exact slot_lset s i j sv _ _ hi'
    refine ⟨RB, nr, nb, by show (initP s i p x).bx = _; rw [e0], by show (initP s i p x).rw = _; rw [e0], by show (initP s i p x).sl.length = _; rw [e0]; simp [lset_length], fun j hj => by rw [hsl, if_neg (by simp at hj; omega)], rfl, by simp [allB, e1], e2, by simp [allA, e3], fun E tb W hB hM hr hb hS => ?_⟩
    simp only [allA, List.append_nil] at hb ⊢
    obtain ⟨k1, k2⟩ := e4 E tb W hB hM hr hb hS
    refine ⟨k1, fun j u h1 h2 hu => ?_⟩
    have : j = i := by simp at h2; omega
    subst this
    rw [hsl, if_pos rfl] at hu
    exact ⟨v, by simp, k2 u hu⟩
  | p :: q :: r, x, v :: vs, g :: gs, h, s, i, hi => by
    obtain ⟨RB, nr, nb, sv, e0, e1, e2, e3, e4⟩ := initP_ok h.1 s i
    have hi' : i < s.sl.length := by simp at hi; omega
    obtain ⟨RC, nr', nb', f1, f2, f3, f4, f5, f6, f7, f8, f9⟩ := initPs_ok h.2 (initP s i p x.1) (i + 1) (by rw [e0]; simp [lset_length]; simp at hi; omega)
    have hsl : ∀ j, (initP s i p x.1).slot j = if i = j then sv else s.slot j := fun j => by rw [e0]; exact slot_lset s i j sv _ _ hi'
    have ee : initPs s i (p :: q :: r) x = initPs (initP s i p x.1) (i + 1) (q :: r) x.2 := rfl
    rw [ee]
    have ebx : (initP s i p x.1).bx = app s.bx nb := by rw [e0]
    have erw : (initP s i p x.1).rw = app s.rw nr := by rw [e0]
    refine ⟨RB ++ RC, app nr nr', app nb nb', by rw [f1, ebx, app_assoc], by rw [f2, erw, app_assoc], by rw [f3, e0]; simp [lset_length], fun j hj => ?_, by simp [f5], by rw [rwB_app, e1, f6]; rfl, e2.app f7, by rw [app_length, e3, f8]; simp [allA], fun E tb W hB hM hr hb hS => ?_⟩
    · rw [f4 j (by simp at hj ⊢; omega), hsl, if_neg (by simp at hj; omega)]
    · simp only [allA] at hb ⊢
      obtain ⟨k1, k2⟩ := e4 E tb W hB (fun b j hm => hM b j (by
        rcases hm with hm | hm | hm
        · exact .inl hm
        · exact .inr (.inl hm)
        · exact hm.elim)) hr.left hb.left hS
      have hr' := hr.right
      have hb' := hb.right
      rw [e2.len] at hr'
      rw [← e3] at hb'
      obtain ⟨k3, k4⟩ := f9 E tb W hB (fun b j hm => hM b j (.inr (.inr hm))) (by rw [erw, app_length]; exact hr') (by rw [ebx, app_length]; exact hb') hS
      refine ⟨k1.app k3, fun j u h1 h2 hu => ?_⟩
      by_cases hj : j = i
      · subst hj
        rw [f4 j (by omega), hsl, if_pos rfl] at hu
        exact ⟨v, by simp, k2 u hu⟩
      · obtain ⟨u', h3, h4⟩ := k4 j u (by omega) (by simp at h2 ⊢; omega) hu
        refine ⟨u', ?_, h4⟩
        rw [show j - i = (j - (i + 1)) + 1 by omega]
        simpa using h3
  | [], _, _ :: _, _, h, _, _, _ => by simp [ArgsOk] at h
  | [], _, [], _ :: _, h, _, _, _ => by simp [ArgsOk] at h
  | [_], _, [], _, h, _, _, _ => by simp [ArgsOk] at h
  | [_], _, _ :: _ :: _, _, h, _, _, _ => by simp [ArgsOk] at h
  | [_], _, [_], [], h, _, _, _ => by simp [ArgsOk] at h
  | [_], _, [_], _ :: _ :: _, h, _, _, _ => by simp [ArgsOk] at h
  | _ :: _ :: _, _, [], _, h, _, _, _ => by simp [ArgsOk] at h
  | _ :: _ :: _, _, _ :: _, [], h, _, _, _ => by simp [ArgsOk] at h

theorem lrep_len {α : Type} (a : α) : ∀ n, (lrep a n).length = n
  | 0 => rfl
  | n + 1 => by simp [lrep, lrep_len a n]
theorem lget_lrep {α : Type} : ∀ (n i : Nat), lget (lrep (none : Option α) n) i = none
  | 0, _ => rfl
  | n + 1, 0 => rfl
  | n + 1, i + 1 => lget_lrep n i
def envOf (By : TypeId → Nat) (w : World) (S : Nat → Prop) (ps : List PM) (gs : List Giv) : Env := ⟨By, w, MayP ps gs, S⟩
theorem MayP_all {ps : List PM} {gs : List Giv} (hl : gs.length = ps.length) {b j : Nat} (h : b ∈ allB gs) : MayP ps gs b j := by
  induction gs generalizing ps with
  | nil => cases h
  | cons g gs ih =>
    cases ps with
    | nil => simp at hl
    | cons p ps =>
      rcases List.mem_append.1 h with h | h
      · exact .inl h
      · exact .inr (.inr (ih (by simpa using hl) h))
theorem ArgsOk.len {By : TypeId → Nat} {w : World} {S : Nat → Prop} : ∀ {ps : List PM} {x : Tys.den (tysOf ps)} {vs : List Value} {gs : List Giv}, ArgsOk By w S ps x vs gs → gs.length = ps.length
  | [], _, [], [], _ => rfl
  | [_], _, [_], [_], _ => rfl
  | _ :: q :: r, x, _ :: vs, _ :: gs, h => by simp [ArgsOk.len (ps := q :: r) h.2]
  | [], _, _ :: _, _, h | [], _, [], _ :: _, h | [_], _, [], _, h | [_], _, _ :: _ :: _, _, h | [_], _, [_], [], h | [_], _, [_], _ :: _ :: _, h | _ :: _ :: _, _, [], _, h | _ :: _ :: _, _, _ :: _, [], h => by simp [ArgsOk] at h
/-- The state that a function begins with is stood for. -/
theorem init_sim {By : TypeId → Nat} {w : World} {S : Nat → Prop} {ps : List PM} {x : Tys.den (tysOf ps)} {vs : List Value} {gs : List Giv} (h : ArgsOk By w S ps x vs gs) (hn : (allB gs ++ pcs gs).Nodup) (hS : ∀ b, S b → b < w.heap.size ∧ b ∉ allB gs ++ pcs gs)
    {n : Nat} (hps : ps.length ≤ n) : ∃ W, Sim (envOf By w S ps gs) (initSt n ps x) (vs.toArray ++ Array.replicate (n - vs.toArray.size) undef) w W := by
  obtain ⟨RB, nr, nb, e1, e2, e3, e4, e5, e6, e7, e8, e9⟩ := initPs_ok h ⟨lrep none n, [], []⟩ 0 (by simp [lrep_len]; exact hps)
  let s := initPs ⟨lrep none n, [], []⟩ 0 ps x
  let W : Wit := ⟨fun o => (allA gs).getD o ⟨0, 0, none⟩, fun r => (RB.getD r (undef, [])).1, fun r => (RB.getD r (undef, [])).2⟩
  have hbx : s.bx = nb := e1
  have hrw : s.rw = nr := e2
  have hrow : ∀ r y, s.tb.row r = some y → ∃ p, RB[r]? = some p ∧ OwT By (.slice y.e y.t) w p.2 [p.1] y.xs ∧ y.n = y.xs.length := fun r y hy => RowsOk.at e7 (by rw [← hrw]; exact hy)
  have hRat : RowsAt s.tb W 0 RB := fun k p hp => by
    rw [Nat.zero_add]
    refine ⟨?_, by simp [W, hp]⟩
    obtain ⟨y, hy⟩ := RowsOk.has e7 hp
    exact ⟨y, by show lget s.rw k = _; rw [hrw]; exact hy⟩
  have hblk : ∀ o y, s.tb.box o = some y → ∃ a, (allA gs)[o]? = some a ∧ W.bx o = a := fun o y hy => by
    have : o < nb.length := lget_lt (by rw [← hbx]; exact hy)
    rw [e8] at this
    exact ⟨_, List.getElem?_eq_getElem this, by simp [W, List.getElem?_eq_getElem this]⟩
  have mem_pcs : ∀ {o : Nat} {a : Addr}, (allA gs)[o]? = some a → a.block ∈ pcs gs := fun {o a} ho => by
    rw [pcs_eq]; exact List.mem_map.2 ⟨a, List.mem_of_getElem? ho, rfl⟩
  have mem_all : ∀ {r : Nat} {p : Value × List Nat} {b : Nat}, RB[r]? = some p → b ∈ p.2 → b ∈ allB gs := fun {r p b} hr hb => by rw [← e6]; exact mem_rwB hr hb
  have hrb : ∀ {r p}, RB[r]? = some p → W.rb r = p.2 ∧ W.rv r = p.1 := fun {r p} hp => by simp [W, hp]
  have hnd := List.nodup_append.1 hn
  have hvis : ∀ b, S b → Vis (envOf By w S ps gs) s.tb W w [] b := fun b hb => by
    obtain ⟨h1, h2⟩ := hS b hb
    refine ⟨h1, fun o y hy e => ?_, fun r y hy hbr => ?_, .inl hb⟩
    · obtain ⟨a, ha, hw⟩ := hblk o y hy
      rw [e, hw] at h2
      exact h2 (List.mem_append_right _ (mem_pcs ha))
    · obtain ⟨p, hp, _⟩ := hrow r y hy
      rw [(hrb hp).1] at hbr
      exact absurd (List.mem_append_left _ (mem_all hp hbr)) h2
  have hbex : ∀ k, k < nb.length → ∃ y, lget nb k = some y := by
    have aux : ∀ (E : Env) (tb : Tb) (W : Wit) (l : List (Option Bx)) (r : List Addr), BxsOk E tb W w l r → ∀ k, k < l.length → ∃ y, lget l k = some y := by
      intro E tb W l
      induction l with
      | nil => intro r _ k hk; simp at hk
      | cons a l ih =>
        intro r hr k hk
        cases a with
        | none => cases hr
        | some y =>
          cases r with
          | nil => cases hr
          | cons _ r =>
            cases k with
            | zero => exact ⟨y, rfl⟩
            | succ k => exact ih r hr.2 k (by simpa using hk)
    -- tables of the right lengths
    let tb0 : Tb := ⟨(allA gs).map fun _ => some ⟨[], []⟩, nr⟩
    have hb0 : ∀ {o : Nat} {a : Addr}, (allA gs)[o]? = some a → ∃ y, tb0.box o = some y := by
      have : ∀ (l : List Addr) (o : Nat) (a : Addr), l[o]? = some a → ∃ y, lget (l.map fun _ => (some ⟨[], []⟩ : Option Bx)) o = some y := by
        intro l
        induction l with
        | nil => intro o a h; simp at h
        | cons c l ih =>
          intro o a h
          cases o with
          | zero => exact ⟨_, rfl⟩
          | succ o => exact ih o a (by simpa using h)
      exact fun {o a} h => this _ o a h
    have hvis0 : ∀ b, S b → Vis (envOf By w S ps gs) tb0 W w [] b := fun b hb => by
      obtain ⟨h1, h2⟩ := hS b hb
      refine ⟨h1, fun o y hy e => ?_, fun r y hy hbr => ?_, .inl hb⟩
      · have ho : o < (allA gs).length := by have := lget_lt (l := tb0.bx) hy; simpa [tb0] using this
        have hw : W.bx o = (allA gs)[o] := by simp [W, List.getElem?_eq_getElem ho]
        rw [e, hw] at h2
        exact h2 (List.mem_append_right _ (mem_pcs (List.getElem?_eq_getElem ho)))
      · obtain ⟨p, hp, _⟩ := hrow r y (by show lget s.rw r = _; rw [hrw]; exact hy)
        rw [(hrb hp).1] at hbr
        exact absurd (List.mem_append_left _ (mem_all hp hbr)) h2
    have := (e9 (envOf By w S ps gs) tb0 W rfl (fun b j hm => hm) (fun k p hp => by
      rw [show ([] : List (Option Row)).length + k = k by simp]
      exact ⟨RowsOk.has e7 hp, (hrb hp).2⟩) (fun k a ha => by
      rw [show ([] : List (Option Bx)).length + k = k by simp]
      exact ⟨hb0 ha, by simp [W, ha]⟩) hvis0).1
    exact aux _ _ _ _ _ this
  have hBat : BxAt s.tb W 0 (allA gs) := fun k a ha => by
    rw [Nat.zero_add]
    refine ⟨?_, by simp [W, ha]⟩
    obtain ⟨y, hy⟩ := hbex k (by rw [e8]; exact (List.getElem?_eq_some_iff.1 ha).1)
    exact ⟨y, by show lget s.bx k = _; rw [hbx]; exact hy⟩
  obtain ⟨g1, g2⟩ := e9 (envOf By w S ps gs) s.tb W rfl (fun b j hm => hm) hRat hBat hvis
  have hvl : vs.length = ps.length := e5
  refine ⟨W, ?_, ?_, ?_⟩
  · show s.sl.length ≤ _
    rw [show s.sl.length = n from by rw [e3]; exact lrep_len none n]
    simp; omega
  · intro i sv hsv
    have hsv : s.slot i = some sv := hsv
    by_cases hi : i < ps.length
    · obtain ⟨v, hv, hr⟩ := g2 i sv (by omega) (by omega) hsv
      refine ⟨v, ?_, hr⟩
      rw [Nat.sub_zero] at hv
      rw [Array.getElem?_append_left (by simp; omega)]
      simpa using hv
    · rw [show s.slot i = none from by rw [e4 i (by omega)]; exact lget_lrep n i] at hsv
      cases hsv
  · refine ⟨fun o y hy => ?_, fun r y hy => ?_, fun r y r' y' hy hy' hne b hb => ?_, fun o y r y' hy hy' hb => ?_, fun o y o' y' hy hy' hne e => ?_, Frame'.refl _ _⟩
    · obtain ⟨a, ha, hr⟩ := g1.at (by rw [← hbx]; exact hy)
      obtain ⟨a', ha', hw⟩ := hblk o y hy
      rw [ha] at ha'; cases ha'
      rw [hw]; exact hr
    · obtain ⟨p, hp, h1, h2⟩ := hrow r y hy
      obtain ⟨k1, k2⟩ := hrb hp
      refine ⟨h2, by rw [k1, k2]; exact h1, by rw [k1]; exact rwB_nodup (by rw [e6]; exact hnd.1) hp, fun b hb j => .inr ?_⟩
      rw [k1] at hb
      exact MayP_all h.len (mem_all hp hb)
    · obtain ⟨p, hp, _⟩ := hrow r y hy
      obtain ⟨p', hp', _⟩ := hrow r' y' hy'
      rw [(hrb hp).1] at hb
      rw [(hrb hp').1]
      exact rwB_disj (by rw [e6]; exact hnd.1) hp hp' hne hb
    · obtain ⟨a, ha, hw⟩ := hblk o y hy
      obtain ⟨p, hp, _⟩ := hrow r y' hy'
      rw [(hrb hp).1, hw] at hb
      exact hnd.2.2 _ (mem_all hp hb) _ (mem_pcs ha) rfl
    · obtain ⟨a, ha, hw⟩ := hblk o y hy
      obtain ⟨a', ha', hw'⟩ := hblk o' y' hy'
      rw [hw, hw'] at e
      have hp := hnd.2.1
      rw [pcs_eq] at hp
      have h1 : ((allA gs).map (·.block))[o]? = some a.block := by simp [ha]
      have h2 : ((allA gs).map (·.block))[o']? = some a.block := by simp [ha', e]
      exact hne ((List.getElem?_inj (List.getElem?_eq_some_iff.1 h1).1 hp).1 (h1.trans h2.symm))
end Go.Ri
/- A function's end: what its last state stands for is what its contract says. -/
namespace Go.Ri
section
variable {P : Program} {T : List TE}

theorem run_map {α β : Type} {x : Sem α} {f : α → β} {w w' : World} {a : α} (h : x.run P w = .ok a w') : (f <$> x).run P w = .ok (f a) w' := by
  rw [← bind_pure_comp, Sem.run_bind, h]; rfl
/-- one result -/
theorem run_res {E : Env} (hT : TOk P T) {s : St} {tm : Array Value} {w : World} {W : Wit} (hs : Sim E s tm w W) {t : Ty} {r : ResultVar} {ls : List Lf} (h : resLs T s t r = some ls) :
    ∃ vs, vs.length = t.sz ∧ LfsRep E s.tb W w ls vs ∧ ((match r with
      | .tmp t => pure (tm.getD t undef)
      | .cell a t => do loadVar t (← asAddr (tm.getD a undef))) : Sem Value).run P w = .ok (mkV t.isPair vs) w := by
  cases r with
  | tmp i =>
    simp only [resLs] at h
    split at h
    rotate_left
    · cases h
    rename_i sv hsv
    obtain ⟨v, hv, hr⟩ := hs.slots i sv hsv
    unfold tyLs at h
    split at h
    · rename_i l
      split at h
      · cases h
      · rename_i hp
        have hp : t.isPair = false := by simpa using hp
        split at h
        · rename_i h1
          cases h
          refine ⟨[v], by rw [Nat.eq_of_beq_eq_true h1]; rfl, ⟨hr, trivial⟩, ?_⟩
          show Result.ok (tm.getD i undef) w = _
          rw [mem_getD_some hv]
          simp [mkV, hp]
        · cases h
    · rename_i l o
      split at h
      · rename_i hc
        simp only [Bool.and_eq_true] at hc
        cases h
        obtain ⟨cs, rfl, h1, _⟩ := hr
        have hlen := LfsRep_len h1
        refine ⟨cs.toList, ?_, h1, ?_⟩
        · rw [← hlen, ← llen_eq]; exact Nat.eq_of_beq_eq_true hc.2
        · show Result.ok (tm.getD i undef) w = _
          rw [mem_getD_some hv]
          simp [mkV, hc.1]
      · cases h
    · cases h
  | cell a ct =>
    simp only [resLs] at h
    split at h
    rotate_left
    · cases h
    rename_i o hsv
    split at h
    rotate_left
    · cases h
    rename_i b hb
    split at h
    rotate_left
    · cases h
    rename_i hc
    simp only [Bool.and_eq_true] at hc
    cases h
    obtain ⟨v, hv, hr⟩ := hs.slots a _ hsv
    obtain ⟨⟨_, rfl⟩, _⟩ := hr
    obtain ⟨vs, h1, h2⟩ := box_cells (hs.tb.boxes o b hb)
    have hlen := LfsRep_len h2
    have hty := Ty.beq_eq hc.1
    have hl : vs.length = t.sz := by rw [← hlen, ← llen_eq]; exact Nat.eq_of_beq_eq_true hc.2.1
    refine ⟨vs, hl, h2, ?_⟩
    rw [Sem.run_bind, mem_getD_some hv, add_zero]
    have hz : (te T ct).d.ty.sz ≠ 0 := by rw [hty]; have := hc.2.2; simp [Nat.blt] at this; omega
    have := run_loadVar (P := P) (cells_ok hT hz) h1 (by rw [hty]; exact hl) (fun hp => by rw [hl, ← hty]; exact isPair_sz hp hz)
    rw [hty] at this
    exact this

def resM (tm : Array Value) : ResultVar → Sem Value
  | .tmp t => pure (tm.getD t undef)
  | .cell a t => do loadVar t (← asAddr (tm.getD a undef))
theorem run_ress {E : Env} (hT : TOk P T) {s : St} {tm : Array Value} {w : World} {W : Wit} (hs : Sim E s tm w W) : ∀ {ts : List Ty} {rs : List ResultVar} {ls : List Lf}, resAll T s ts rs = some ls →
    ∃ vs, vs.length = szs ts ∧ LfsRep E s.tb W w ls vs ∧ (rs.mapM (resM tm)).run P w = .ok (resV ts vs) w
  | [], [], ls, h => by
    simp only [resAll, Option.some.injEq] at h
    subst h
    exact ⟨[], rfl, trivial, rfl⟩
  | t :: ts, r :: rs, ls, h => by
    simp only [resAll] at h
    split at h
    rotate_left
    · cases h
    rename_i a ha
    split at h
    rotate_left
    · cases h
    rename_i b hb
    cases h
    obtain ⟨vs, h1, h2, h3⟩ := run_res hT hs ha
    obtain ⟨us, k1, k2, k3⟩ := run_ress hT hs hb
    refine ⟨vs ++ us, by simp [szs, h1, k1], by rw [app_eq]; exact LfsRep_append h2 k2, ?_⟩
    have h3' : (resM tm r).run P w = .ok (mkV t.isPair vs) w := by cases r <;> exact h3
    rw [List.mapM_cons, Sem.run_bind, h3']
    simp only [Result.andThen]
    rw [Sem.run_bind, k3]
    simp only [Result.andThen, Sem.run_pure, resV]
    rw [← h1, List.take_left, List.drop_left]
  | [], _ :: _, _, h => by simp [resAll] at h
  | _ :: _, [], _, h => by simp [resAll] at h
theorem run_results {fn : Func} {tm : Array Value} {w : World} {us : List Value} (h : (fn.results.toList.mapM (resM tm)).run P w = .ok us w) : (results fn tm).run P w = .ok (tupV us) w := by
  have e : (fn.results.mapM (resM tm)).run P w = .ok us.toArray w := by
    rw [← Array.toArray_toList (xs := fn.results), List.mapM_toArray]
    exact run_map h
  have e2 : (results fn tm) = (do
      let vs ← fn.results.mapM (resM tm)
      pure (if h : vs.size = 1 then vs[0] else .tuple vs)) := by
    unfold results
    congr 1
  rw [e2, Sem.run_bind, e]
  simp only [Result.andThen, Sem.run_pure]
  congr 1
  match us with
  | [] => rfl
  | [v] => rfl
  | v :: u :: us => simp [tupV]

/-- cells that may be written at every place are those that were handed over -/
theorem may_bound : ∀ {ps : List PM} {gs : List Giv}, ∃ N, ∀ b j, N ≤ j → MayP ps gs b j → b ∈ allB gs
  | [], gs => ⟨0, fun b j _ h => by simp [MayP] at h⟩
  | _ :: _, [] => ⟨0, fun b j _ h => by simp [MayP] at h⟩
  | p :: ps, g :: gs => by
    obtain ⟨N, hN⟩ := may_bound (ps := ps) (gs := gs)
    have : ∃ M, ∀ t m b off i, p = .ptr t m → g.pc = some (b, off) → i < t.sz → off + i < M := by
      cases p with
      | ptr t m =>
        cases hp : g.pc with
        | none => exact ⟨0, fun t m b off i _ h => by cases h⟩
        | some q => exact ⟨q.2 + t.sz, fun t' m' b off i e h hi => by cases e; cases h; dsimp only; omega⟩
      | _ => exact ⟨0, fun t m b off i h => by cases h⟩
    obtain ⟨M, hM⟩ := this
    refine ⟨N + M, fun b j hj h => ?_⟩
    rcases h with h | ⟨t, m, off, e, hp, i, _, hi, rfl⟩ | h
    · exact List.mem_append_left _ h
    · have := hM t m b off i e hp hi; omega
    · exact List.mem_append_right _ (hN b j (by omega) h)
theorem mine_all {By : TypeId → Nat} {w : World} {S : Nat → Prop} {ps : List PM} {gs : List Giv} {b : Nat} (h : ∀ j, Mine (envOf By w S ps gs) b j) : w.heap.size ≤ b ∨ b ∈ allB gs := by
  obtain ⟨N, hN⟩ := may_bound (ps := ps) (gs := gs)
  rcases h N with h | h
  · exact .inl h
  · exact .inr (hN b N (Nat.le_refl _) h)
/-- a cell that may be written: new, handed over, or behind a parameter's pointer -/
theorem may_cases : ∀ {ps : List PM} {gs : List Giv} {b j : Nat}, MayP ps gs b j → b ∈ allB gs ∨ ∃ (i : Nat) (t : Ty) (m : List Bool) (g : Giv) (off : Nat), ps[i]? = some (.ptr t m) ∧ gs[i]? = some g ∧ g.pc = some (b, off)
  | [], _, _, _, h => by simp [MayP] at h
  | _ :: _, [], _, _, h => by simp [MayP] at h
  | p :: ps, g :: gs, b, j, h => by
    rcases h with h | ⟨t, m, off, rfl, hp, _⟩ | h
    · exact .inl (List.mem_append_left _ h)
    · exact .inr ⟨0, t, m, g, off, rfl, rfl, hp⟩
    · rcases may_cases h with h | ⟨i, t, m, g', off, h1, h2, h3⟩
      · exact .inl (List.mem_append_right _ h)
      · exact .inr ⟨i + 1, t, m, g', off, by simpa using h1, by simpa using h2, h3⟩

/-! ### what goes back through parameters -/
/-- cells of no slice's type hold no slice -/
def NoSl : List Ty → List Value → Prop
  | [], [] => True
  | y :: ts, v :: vs => ((∀ e u, y ≠ Ty.slice e u) → ∀ A n c, v ≠ Value.slice A n c) ∧ NoSl ts vs
  | _, _ => False
theorem NoSl.append : ∀ {a b : List Ty} {u v : List Value}, NoSl a u → NoSl b v → NoSl (a ++ b) (u ++ v)
  | [], _, [], _, _, h => h
  | _ :: _, _, _ :: _, _, h, k => ⟨h.1, NoSl.append h.2 k⟩
  | [], _, _ :: _, _, h, _ => h.elim
  | _ :: _, _, [], _, h, _ => h.elim
theorem nosl_of {By : TypeId → Nat} : ∀ {t : Ty} {w : World} {B : List Nat} {vs : List Value} {x : t.den}, OwT By t w B vs x → NoSl t.leaves vs
  | .int k, _, _, vs, _, h => by rw [h.1]; exact ⟨fun _ A n c => by simp, trivial⟩
  | .bool, _, _, vs, _, h => by rw [h.1]; exact ⟨fun _ A n c => by simp, trivial⟩
  | .str, _, _, vs, _, h => by rw [h.1]; exact ⟨fun _ A n c => by simp, trivial⟩
  | .unit, _, _, vs, _, h => by rw [h.1]; exact trivial
  | .slice e t, _, _, vs, _, h => by
    obtain ⟨v, rfl⟩ := single (OwT.len By h)
    exact ⟨fun hn => absurd rfl (hn e t), trivial⟩
  | .pair a b, _, _, vs, x, h => by
    obtain ⟨B1, B2, _, h1, h2⟩ := h
    have := (nosl_of h1).append (nosl_of h2)
    rw [List.take_append_drop] at this
    simpa [Ty.leaves, app_eq] using this
theorem slTys_cons (y : Ty) (ts : List Ty) : (∃ e u, y = Ty.slice e u ∧ (slTys (y :: ts)).length = (slTys ts).length + 1 ∧ ∀ v vs, slCells (y :: ts) (v :: vs) = v :: slCells ts vs) ∨
    ((∀ e u, y ≠ Ty.slice e u) ∧ slTys (y :: ts) = slTys ts ∧ ∀ v vs, slCells (y :: ts) (v :: vs) = slCells ts vs) := by
  cases y with
  | slice e u => exact .inl ⟨e, u, rfl, rfl, fun _ _ => rfl⟩
  | _ => exact .inr ⟨fun _ _ h => (by cases h), rfl, fun _ _ => rfl⟩
theorem refsOf_cons (l : Lf) (ls : List Lf) : (∃ q, l = Lf.ref q ∧ refsOf (l :: ls) = l :: refsOf ls) ∨ ((∀ q, l ≠ Lf.ref q) ∧ refsOf (l :: ls) = refsOf ls) := by
  cases l with
  | ref q => exact .inl ⟨q, rfl, rfl⟩
  | _ => exact .inr ⟨fun _ h => (by cases h), rfl⟩
theorem refs_cells {E : Env} {tb : Tb} {W : Wit} {w : World} (ht : TbRep E tb w W) : ∀ {ts : List Ty} {ls : List Lf} {vs : List Value}, NoSl ts vs → LfsRep E tb W w ls vs →
    (refsOf ls).length ≤ (slTys ts).length ∧ ((refsOf ls).length = (slTys ts).length → LfsRep E tb W w (refsOf ls) (slCells ts vs))
  | [], [], [], _, _ => ⟨Nat.le_refl _, fun _ => trivial⟩
  | y :: ts, l :: ls, v :: vs, hn, hr => by
    obtain ⟨k1, k2⟩ := refs_cells ht hn.2 hr.2
    rcases slTys_cons y ts with ⟨e, u, rfl, e1, e2⟩ | ⟨hy, e1, e2⟩
    · rcases refsOf_cons l ls with ⟨q, rfl, e3⟩ | ⟨_, e3⟩
      · rw [e2, e3, e1]
        exact ⟨by simp only [List.length_cons]; omega, fun h => ⟨hr.1, k2 (by simp only [List.length_cons] at h; omega)⟩⟩
      · rw [e2, e3, e1]
        exact ⟨by omega, fun h => by omega⟩
    · rcases refsOf_cons l ls with ⟨q, rfl, e3⟩ | ⟨_, e3⟩
      · exfalso
        obtain ⟨⟨⟨x, hx⟩, hv⟩, _⟩ := hr.1
        rcases (ht.rows q x hx).own with ⟨e, _⟩ | ⟨_, _, _, _, e, _⟩ <;> simp only [List.cons.injEq, and_true] at e <;> rw [e] at hv <;> exact hn.1 hy _ _ _ hv
      · rw [e1, e2, e3]; exact ⟨k1, k2⟩
  | [], [], _ :: _, h, _ => h.elim
  | [], _ :: _, [], _, h => h.elim
  | [], _ :: _, _ :: _, h, _ => h.elim
  | _ :: _, [], [], h, _ => h.elim
  | _ :: _, [], _ :: _, _, h => h.elim
  | _ :: _, _ :: _, [], h, _ => h.elim

theorem chosen_len : ∀ {m : List Bool} {ls : List Lf} {ts : List Ty}, ls.length = m.length → ts.length = m.length → (chosen m ls).length = (pickT m ts).length
  | [], [], [], _, _ => rfl
  | true :: m, l :: ls, t :: ts, h, k => by simp only [chosen, pickT, List.length_cons]; rw [chosen_len (m := m) (by simpa using h) (by simpa using k)]
  | false :: m, l :: ls, t :: ts, h, k => chosen_len (m := m) (by simpa using h) (by simpa using k)
  | [], _ :: _, _, h, _ => by simp at h
  | [], [], _ :: _, _, k => by simp at k
  | _ :: _, [], _, h, _ => by simp at h
  | _ :: _, _ :: _, [], _, k => by simp at k
theorem chosen_rep {E : Env} {tb : Tb} {W : Wit} {w : World} : ∀ {m : List Bool} {ls : List Lf} {vs : List Value}, LfsRep E tb W w ls vs → LfsRep E tb W w (chosen m ls) (pickV m vs)
  | [], [], [], _ => trivial
  | [], _ :: _, _ :: _, _ => trivial
  | true :: m, [], [], _ => trivial
  | false :: m, [], [], _ => trivial
  | true :: m, l :: ls, v :: vs, h => ⟨h.1, chosen_rep h.2⟩
  | false :: m, l :: ls, v :: vs, h => chosen_rep (m := m) h.2
  | _, [], _ :: _, h => h.elim
  | _, _ :: _, [], h => h.elim
/-- what is kept in mind of an argument while its function runs -/
def KeptArg : PM → Value → Giv → Prop
  | .mut t, v, _ => NoSl t.leaves v.cells.toList
  | .ptr t m, v, g => m.length = t.sz ∧ ∃ b off, g.pc = some (b, off) ∧ v = .pointer (some ⟨b, off, none⟩)
  | _, _, g => g.pc = none
def PM.pinned : PM → Bool
  | .mut _ | .ptr _ _ => true | _ => false
def Giv.ok : PM → Giv → Prop
  | .ptr _ _, _ => True | _, g => g.pc = none
theorem arg_kept {By : TypeId → Nat} {w : World} {S : Nat → Prop} {p : PM} {x : p.ty.den} {v : Value} {g : Giv} (h : ArgOk By w S p x v g) : KeptArg p v g := by
  cases p with
  | «mut» t =>
    obtain ⟨_, cs, rfl, h, h1⟩ := h
    have h2 := nosl_of h
    have h3 : (mkV t.isPair cs).cells.toList = cs := mkV_cells (fun hp => by rw [OwT.len By h]; exact h1 hp) (owls_one ((OwT_iff By).1 h))
    show NoSl t.leaves (mkV t.isPair cs).cells.toList
    rw [h3]; exact h2
  | ptr t m =>
    obtain ⟨h0, b, off, cells, e, h1, rfl, _⟩ := h
    exact ⟨h0, b, off, h1, rfl⟩
  | vw t => exact h.2.1
  | own t => exact h.1
  | rp t => exact h.2.1
  | fn f ts => exact h.2.1
def KeptArgs : List PM → List Value → List Giv → Prop
  | [], [], [] => True
  | p :: ps, v :: vs, g :: gs => KeptArg p v g ∧ KeptArgs ps vs gs
  | _, _, _ => False
theorem args_kept {By : TypeId → Nat} {w : World} {S : Nat → Prop} : ∀ {ps : List PM} {x : Tys.den (tysOf ps)} {vs : List Value} {gs : List Giv}, ArgsOk By w S ps x vs gs → KeptArgs ps vs gs
  | [], _, [], [], _ => trivial
  | [p], x, [v], [g], h => ⟨arg_kept (show ArgOk By w S p x v g from h), trivial⟩
  | p :: q :: r, x, v :: vs, g :: gs, h => ⟨arg_kept h.1, args_kept (ps := q :: r) h.2⟩
  | [], _, _ :: _, _, h | [], _, [], _ :: _, h | [_], _, [], _, h | [_], _, _ :: _ :: _, _, h | [_], _, [_], [], h | [_], _, [_], _ :: _ :: _, h | _ :: _ :: _, _, [], _, h | _ :: _ :: _, _, _ :: _, [], h => by simp [ArgsOk] at h

theorem ow_split {By : TypeId → Nat} {w : World} {O : List Nat} {a b : List Value} {l : List LV} {n : Nat} (h : OwLs By w O (a ++ b) l) (hn : a.length = n) : ∃ O1 O2, O = O1 ++ O2 ∧ OwLs By w O1 a (l.take n) ∧ OwLs By w O2 b (l.drop n) := by
  have hl := OwLs_len By h
  have h' : OwLs By w O (a ++ b) (l.take n ++ l.drop n) := by rw [List.take_append_drop]; exact h
  obtain ⟨O1, O2, e, h1, h2⟩ := OwLs_split By (n := n) (by simp at hl ⊢; omega) h'
  rw [← hn, List.take_left] at h1
  rw [← hn, List.drop_left] at h2
  rw [hn] at h1 h2
  exact ⟨O1, O2, e, h1, h2⟩
theorem outs_ok {E : Env} {s : St} {tm : Array Value} {w : World} {W : Wit} (hs : Sim E s tm w W) : ∀ {ps : List PM} {vs : List Value} {gs : List Giv} {i : Nat} {b : List Lf}, KeptArgs ps vs gs →
    (∀ j p, ps[j]? = some p → p.pinned = true → tm[i + j]? = vs[j]?) → outLs s ps i = some b →
    ∃ ocs, LfsRep E s.tb W w b ocs ∧ (∀ l O, OwLs E.By w O ocs l → ∃ Os, List.flatten Os = O ∧ OutsOk E.By w ps vs gs l Os) ∧
      ∀ (j : Nat) (t : Ty) (m : List Bool) (g : Giv) (bk off : Nat), ps[j]? = some (PM.ptr t m) → gs[j]? = some g → g.pc = some (bk, off) → ∃ o x, o ∈ parBox s ps i ∧ s.tb.box o = some x ∧ W.bx o = ⟨bk, off, none⟩
  | [], [], [], i, b, _, _, h => by
    simp only [outLs, Option.some.injEq] at h
    subst h
    exact ⟨[], trivial, fun l O h => by
      have := OwLs_len E.By h
      have hl : l = [] := by cases l with
        | nil => rfl
        | cons _ _ => simp at this
      subst hl
      exact ⟨[], by rw [show O = [] from h]; rfl, rfl, rfl⟩, fun j t m g bk off h => by simp at h⟩
  | p :: ps, v :: vs, g :: gs, i, b, hk, hp, h => by
    have hp' : ∀ j q, ps[j]? = some q → q.pinned = true → tm[i + 1 + j]? = vs[j]? := fun j q h1 h2 => by
      have := hp (j + 1) q (by simpa using h1) h2
      rw [show i + (j + 1) = i + 1 + j by omega] at this
      simpa using this
    -- a parameter through which nothing goes back
    have plain : outLs s (p :: ps) i = outLs s ps (i + 1) → outN p = 0 → (∀ w' v' g' l, OutOk E.By w' p v' g' l []) → (∀ t m, p ≠ .ptr t m) → parBox s (p :: ps) i = parBox s ps (i + 1) →
        ∃ ocs, LfsRep E s.tb W w b ocs ∧ (∀ l O, OwLs E.By w O ocs l → ∃ Os, List.flatten Os = O ∧ OutsOk E.By w (p :: ps) (v :: vs) (g :: gs) l Os) ∧
          ∀ (j : Nat) (t : Ty) (m : List Bool) (g' : Giv) (bk off : Nat), (p :: ps)[j]? = some (PM.ptr t m) → (g :: gs)[j]? = some g' → g'.pc = some (bk, off) → ∃ o x, o ∈ parBox s (p :: ps) i ∧ s.tb.box o = some x ∧ W.bx o = ⟨bk, off, none⟩ := by
      intro e1 e2 e3 e4 e5
      rw [e1] at h
      obtain ⟨ocs, h1, h2, h3⟩ := outs_ok hs hk.2 hp' h
      refine ⟨ocs, h1, fun l O hO => ?_, fun j t m g' bk off a1 a2 a3 => ?_⟩
      · obtain ⟨Os, k1, k2⟩ := h2 l O hO
        exact ⟨[] :: Os, by simpa using k1, by rw [e2]; exact e3 _ _ _ _, by rw [e2]; exact k2⟩
      · cases j with
        | zero => simp only [List.getElem?_cons_zero, Option.some.injEq] at a1; exact absurd a1 (e4 t m)
        | succ j => rw [e5]; exact h3 j t m g' bk off (by simpa using a1) (by simpa using a2) a3
    cases p with
    | vw t => exact plain rfl rfl (fun _ _ _ _ => rfl) (fun _ _ => by simp) rfl
    | own t => exact plain rfl rfl (fun _ _ _ _ => rfl) (fun _ _ => by simp) rfl
    | rp t => exact plain rfl rfl (fun _ _ _ _ => rfl) (fun _ _ => by simp) rfl
    | fn f ts => exact plain rfl rfl (fun _ _ _ _ => rfl) (fun _ _ => by simp) rfl
    | «mut» t =>
      simp only [outLs] at h
      split at h
      rotate_left
      · cases h
      rename_i sv r hsv hr
      split at h
      rotate_left
      · cases h
      rename_i hc
      cases h
      simp only [Bool.and_eq_true] at hc
      obtain ⟨ocs, h1, h2, h3⟩ := outs_ok hs hk.2 hp' hr
      obtain ⟨u, hu, hrep⟩ := hs.slots i sv hsv
      have huv : u = v := by
        have := hp 0 _ rfl rfl
        rw [Nat.add_zero] at this
        rw [this] at hu
        simpa using hu.symm
      subst huv
      have hlen : sv.ls.length = t.sz := by rw [← llen_eq]; exact Nat.eq_of_beq_eq_true hc.1
      have hNS : NoSl t.leaves u.cells.toList := hk.1
      have hrl : LfsRep E s.tb W w sv.ls u.cells.toList := by
        by_cases h0 : sv.ls = []
        · rw [h0] at hlen ⊢
          have hz : t.leaves = [] := List.length_eq_zero_iff.1 (by rw [leaves_len, ← hlen]; rfl)
          rw [hz] at hNS
          cases hcs : u.cells.toList with
          | nil => trivial
          | cons a r => rw [hcs] at hNS; exact hNS.elim
        · exact sv_cells hrep h0
      obtain ⟨_, k2⟩ := refs_cells hs.tb hNS hrl
      have hcnt : (refsOf sv.ls).length = (slTys t.leaves).length := by rw [← llen_eq, ← llen_eq]; exact Nat.eq_of_beq_eq_true hc.2
      have hrefs := k2 hcnt
      refine ⟨slCells t.leaves u.cells.toList ++ ocs, by rw [app_eq]; exact LfsRep_append hrefs h1, fun l O hO => ?_, fun j t' m' g' bk off a1 a2 a3 => ?_⟩
      · obtain ⟨O1, O2, rfl, o1, o2⟩ := ow_split hO (n := outN (.mut t)) (by rw [← LfsRep_len hrefs, hcnt]; simp [outN, llen_eq])
        obtain ⟨Os, k1, k2⟩ := h2 _ _ o2
        exact ⟨O1 :: Os, by simp [k1], o1, k2⟩
      · cases j with
        | zero => simp at a1
        | succ j => exact h3 j t' m' g' bk off (by simpa using a1) (by simpa using a2) a3
    | ptr t m =>
      simp only [outLs] at h
      split at h
      rotate_left
      · cases h
      rename_i o r hsv hr
      split at h
      rotate_left
      · cases h
      rename_i x hx
      split at h
      rotate_left
      · cases h
      rename_i hc
      cases h
      obtain ⟨ocs, h1, h2, h3⟩ := outs_ok hs hk.2 hp' hr
      obtain ⟨u, hu, hrep⟩ := hs.slots i _ hsv
      have huv : u = v := by
        have := hp 0 _ rfl rfl
        rw [Nat.add_zero] at this
        rw [this] at hu
        simpa using hu.symm
      subst huv
      obtain ⟨hm, bk, off, hpc, hpt⟩ := hk.1
      have hbx : W.bx o = ⟨bk, off, none⟩ := by
        have := hrep.1.2
        rw [hpt, add_zero] at this
        simpa using this.symm
      have hlen : x.ls.length = t.sz := by rw [← llen_eq]; exact Nat.eq_of_beq_eq_true hc
      have hb := hs.tb.boxes o x hx
      obtain ⟨cells, e, hh, hl⟩ := hb.cells
      rw [hbx, hlen] at hl
      rw [hbx] at hh
      have hch := chosen_rep (m := m) hl
      refine ⟨pickV m ((cells.toList.drop off).take t.sz) ++ ocs, by rw [app_eq]; exact LfsRep_append hch h1, fun l O hO => ?_, fun j t' m' g' bk' off' a1 a2 a3 => ?_⟩
      · obtain ⟨O1, O2, rfl, o1, o2⟩ := ow_split hO (n := outN (.ptr t m)) (by rw [← LfsRep_len hch, chosen_len (by omega) (ts := t.leaves) (by rw [leaves_len]; omega)]; simp [outN, llen_eq])
        obtain ⟨Os, k1, k2⟩ := h2 _ _ o2
        exact ⟨O1 :: Os, by simp [k1], ⟨bk, off, cells, e, hpc, hh, o1⟩, k2⟩
      · cases j with
        | zero =>
          simp only [List.getElem?_cons_zero, Option.some.injEq] at a1 a2
          subst a2
          rw [hpc] at a3
          cases a3
          exact ⟨o, x, by simp only [parBox, hsv]; exact List.mem_cons_self .., hx, hbx⟩
        | succ j =>
          obtain ⟨o', x', b1, b2⟩ := h3 j t' m' g' bk' off' (by simpa using a1) (by simpa using a2) a3
          exact ⟨o', x', by simp only [parBox, hsv]; exact List.mem_cons_of_mem _ b1, b2⟩
  | [], _ :: _, _, _, _, h, _, _ => h.elim
  | [], [], _ :: _, _, _, h, _, _ => h.elim
  | _ :: _, [], _, _, _, h, _, _ => h.elim
  | _ :: _, _ :: _, [], _, _, h, _, _ => h.elim
end
end Go.Ri
/- A function's end, whole. -/
namespace Go.Ri
section
variable {P : Program} {T : List TE}

theorem lvs_len {s : St} : ∀ {ls : List Lf} {l : List LV}, s.lvs ls = some l → l.length = ls.length
  | [], l, h => by simp only [St.lvs, Option.some.injEq] at h; subst h; rfl
  | x :: ls, l, h => by
    obtain ⟨a, b, _, h2, rfl⟩ := lvs_cons h
    simp [lvs_len h2]
theorem lvs_app {s : St} : ∀ {a b : List Lf} {l : List LV}, s.lvs (a ++ b) = some l → s.lvs a = some (l.take a.length) ∧ s.lvs b = some (l.drop a.length)
  | [], b, l, h => ⟨by simp [St.lvs], by simpa using h⟩
  | x :: a, b, l, h => by
    obtain ⟨y, m, h1, h2, rfl⟩ := lvs_cons h
    obtain ⟨k1, k2⟩ := lvs_app h2
    exact ⟨by simp [St.lvs, h1, k1], by simpa using k2⟩
/-- leaves that are read as data -/
theorem rd_rep {E : Env} {s : St} {W : Wit} {w : World} (ht : TbRep E s.tb w W) {S' : Nat → Prop} (hS : ∀ rs b, Vis E s.tb W w rs b → S' b) (hR : ∀ r x b, s.tb.row r = some x → b ∈ W.rb r → S' b) :
    ∀ {ls : List Lf} {vs : List Value} {lv : List LV}, s.lvs ls = some lv → LfsRep E s.tb W w ls vs → VwLs E.By w S' vs lv
  | [], [], lv, h, _ => by simp only [St.lvs, Option.some.injEq] at h; subst h; trivial
  | l :: ls, v :: vs, lv, h, hr => by
    obtain ⟨a, b, h2, h3, rfl⟩ := lvs_cons h
    refine ⟨?_, rd_rep ht hS hR h3 hr.2⟩
    have hl := hr.1.1
    cases l with
    | int k z =>
      simp only [St.lv, Option.some.injEq] at h2; subst h2
      exact ⟨by rw [hl.1], hl.2⟩
    | bool z =>
      simp only [St.lv, Option.some.injEq] at h2; subst h2
      show [v] = _
      rw [show v = _ from hl]
    | str z =>
      simp only [St.lv, Option.some.injEq] at h2; subst h2
      exact ⟨by rw [hl.1], hl.2⟩
    | nil e t =>
      simp only [St.lv, Option.some.injEq] at h2; subst h2
      exact ⟨none, 0, 0, by rw [show v = _ from hl], rfl, by simp, ⟨by simp [room], by simp⟩, fun h => absurd h (by omega)⟩
    | ref r =>
      simp only [St.lv] at h2
      split at h2
      · rename_i x hx
        cases h2
        rw [hl.2]
        exact OwT.vw E.By (ht.rows r x hx).own fun b hb => hR r x b hx hb
      · cases h2
    | vw rs e t xs =>
      simp only [St.lv, Option.some.injEq] at h2; subst h2
      exact VwT.frame E.By hl fun b hb => ⟨hS rs b hb, rfl⟩
    | pbox => simp [St.lv] at h2
    | pel => simp [St.lv] at h2
    | pvw => simp [St.lv] at h2
    | fn => simp [St.lv] at h2
    | dead => simp [St.lv] at h2
  | [], _ :: _, _, _, h => h.elim
  | _ :: _, [], _, _, h => h.elim

theorem noOuts_ptr : ∀ {ps : List PM}, noOuts ps = true → ∀ p, p ∈ ps → p.pinned = false
  | p :: ps, h, q, hq => by
    have hh : noOuts ps = true ∧ p.pinned = false := by
      unfold noOuts at h ⊢
      cases p <;> simp only [outsOf, PM.out, app] at h ⊢ <;> first | exact ⟨h, rfl⟩ | exact absurd h (by simp)
    rcases List.mem_cons.1 hq with rfl | hq
    · exact hh.2
    · exact noOuts_ptr hh.1 q hq
theorem kept_pcs : ∀ {ps : List PM} {vs : List Value} {gs : List Giv}, KeptArgs ps vs gs → (∀ p, p ∈ ps → p.pinned = false) → pcs gs = []
  | [], [], [], _, _ => rfl
  | p :: ps, v :: vs, g :: gs, h, hp => by
    have hr := kept_pcs h.2 fun q hq => hp q (List.mem_cons_of_mem _ hq)
    have h1 := hp p (List.mem_cons_self ..)
    have : g.pc = none := by
      cases p with
      | «mut» t => simp [PM.pinned] at h1
      | ptr t m => simp [PM.pinned] at h1
      | _ => exact h.1
    simp [pcs, Giv.pb, this, hr]
  | [], _ :: _, _, h, _ => h.elim
  | [], [], _ :: _, h, _ => h.elim
  | _ :: _, [], _, h, _ => h.elim
  | _ :: _, _ :: _, [], h, _ => h.elim
theorem szs_eq (rs : List Ty) (os : List Ty) (y : Tys.den (app rs os)) : True := trivial

/-- The end of a function: its results, and what its contract says of them. -/
theorem ret_ok (hT : TOk P T) {By : TypeId → Nat} {w : World} {S : Nat → Prop} {ps : List PM} {x : Tys.den (tysOf ps)} {vs : List Value} {gs : List Giv} (hargs : ArgsOk By w S ps x vs gs)
    {fn : Func} {rs : List Ty} {vr bx : Bool} (hvr : vr = true → noOuts ps = true) {s : St} {y : Tys.den (app rs (outsOf ps))} (h : retF T fn ps rs vr bx s = some y) {tm : Array Value} {w' : World} {W : Wit}
    (hs : Sim (envOf By w S ps gs) s tm w' W) (hp : ∀ (j : Nat) (p : PM), ps[j]? = some p → p.pinned = true → tm[j]? = vs[j]?) :
    ∃ v, (results fn tm).run P w' = .ok v w' ∧ RetOk By ps rs vr bx w S vs gs y v w' := by
  have hk := args_kept hargs
  unfold retF at h
  split at h
  rotate_left
  · cases h
  rename_i a b ha hb
  split at h
  rotate_left
  · cases h
  rename_i o ho
  split at h
  rotate_left
  · cases h
  rename_i hnd
  split at h
  rotate_left
  · cases h
  rename_i l hl
  have hy := tys_rd_out h
  have hnd := nodupN_iff.1 hnd
  obtain ⟨ocs, h1, h2, h3⟩ := outs_ok hs hk (i := 0) (fun j p a b => (by rw [Nat.zero_add]; exact hp j p a b)) hb
  rw [app_eq] at hl
  obtain ⟨la, lb⟩ := lvs_app hl
  -- the results
  have hres : ∃ (rcs : List Value) (nb : List Nat) (v : Value), a.length = szs rs ∧ LfsRep (envOf By w S ps gs) s.tb W w' a rcs ∧ (results fn tm).run P w' = .ok v w' ∧ nb.Nodup ∧
      (∀ n, n ∈ nb → (w.heap.size ≤ n ∨ n ∈ allB gs) ∧ (∃ o x, s.tb.box o = some x ∧ (W.bx o).block = n)) ∧
      (if bx = true then ∃ n off, nb = [n] ∧ v = .pointer (some ⟨n, off, none⟩) ∧ ∃ cs e, w'.heap[n]? = some (.cells cs e (0, 0)) ∧ off + szs rs ≤ cs.size ∧ (cs.toList.drop off).take (szs rs) = rcs else nb = [] ∧ v = tupV (resV rs rcs)) := by
    cases bx with
    | false =>
      simp only [Bool.false_eq_true, if_false] at ha ⊢
      obtain ⟨rcs, k1, k2, k3⟩ := run_ress hT hs ha
      exact ⟨rcs, [], _, by rw [LfsRep_len k2, k1], k2, run_results k3, List.nodup_nil, fun n hn => (by cases hn), rfl, rfl⟩
    | true =>
      simp only [if_true] at ha ⊢
      unfold boxRes at ha
      split at ha
      rotate_left
      · cases ha
      rename_i t ht
      split at ha
      rotate_left
      · cases ha
      rename_i q hq
      split at ha
      · cases ha
      rename_i hold
      split at ha
      rotate_left
      · cases ha
      rename_i z hz
      split at ha
      rotate_left
      · cases ha
      rename_i hc
      cases ha
      simp only [Bool.and_eq_true] at hc
      have hlen : z.ls.length = szs rs := by rw [← llen_eq]; exact Nat.eq_of_beq_eq_true hc.2.1
      have hpos : 0 < szs rs := by have := hc.2.2; simp [Nat.blt] at this; omega
      obtain ⟨v, hv, hr⟩ := hs.slots t _ hq
      have hv2 := hr.1.2
      rw [add_zero] at hv2
      have hB := hs.tb.boxes q z hz
      obtain ⟨cs, e, hh, hlr⟩ := hB.cells
      have hsp := hB.spot
      have had : W.bx q = ⟨(W.bx q).block, (W.bx q).off, none⟩ := by rw [← hsp]
      have hl2 := LfsRep_len hlr
      rw [hlen] at hlr hl2
      simp only [List.length_take, List.length_drop, Array.length_toList] at hl2
      refine ⟨(cs.toList.drop (W.bx q).off).take (szs rs), [(W.bx q).block], v, hlen, hlr, ?_, by simp, fun n hn => ?_, (W.bx q).block, (W.bx q).off, rfl, by rw [hv2, had], cs, e, hh, by omega, rfl⟩
      · have : (fn.results.toList.mapM (resM tm)).run P w' = .ok [v] w' := by
          rw [ht, List.mapM_cons, Sem.run_bind]
          have : (resM tm (.tmp t)).run P w' = .ok v w' := by
            show Result.ok (tm.getD t undef) w' = _
            rw [mem_getD_some hv]
          rw [this]
          simp [Result.andThen]
        exact run_results this
      · rw [List.mem_singleton] at hn
        subst hn
        refine ⟨?_, q, z, hz, rfl⟩
        rcases hB.mine 0 (by omega) (free_at hc.1) with h | h
        · exact .inl h
        · rcases may_cases h with h | ⟨i, t, m, g, off, m1, m2, m3⟩
          · exact .inr h
          · exfalso
            obtain ⟨o', x', b1, b2, b3⟩ := h3 i t m g _ off m1 m2 m3
            have hne : q ≠ o' := by
              intro e; subst e
              rw [memN_iff.2 b1] at hold; simp at hold
            exact hs.tb.bb q z o' x' hz b2 hne (by rw [b3])
  obtain ⟨rcs, nb, v, r1, r2, r3, r4, r5, r6⟩ := hres
  have hrl : rcs.length = szs rs := by rw [← LfsRep_len r2, r1]
  refine ⟨v, r3, hs.tb.frame, ?_⟩
  have hyl : Tys.out _ y = l := hy.symm
  rw [hyl]
  have hrow : ∀ q b, q ∈ o → b ∈ W.rb q → (∃ x, s.tb.row q = some x) → w.heap.size ≤ b ∨ b ∈ allB gs := fun q b hq hb ⟨x, hx⟩ => mine_all ((hs.tb.rows q x hx).mine b hb)
  have hnb_row : ∀ n q x, n ∈ nb → s.tb.row q = some x → n ∉ W.rb q := fun n q x hn hx hm => by
    obtain ⟨_, o', x', h1, h2⟩ := r5 n hn
    exact hs.tb.br o' x' q x h1 hx (h2 ▸ hm)
  cases hvrc : vr with
  | false =>
    rw [hvrc] at ho
    simp only [Bool.false_eq_true, if_false] at ho ⊢
    rw [app_eq] at ho
    have hhas := own_has ho hl
    have hO := own_rep (w' := w') hs.tb ho hl (LfsRep_append r2 h1) fun q hq b hb => rfl
    obtain ⟨O1, O2, e, o1, o2⟩ := ow_split hO hrl
    obtain ⟨Os, k1, k2⟩ := h2 _ _ o2
    have hrn := rbs_nodup hs.tb hnd hhas
    refine ⟨rcs, nb, O1, Os, r6, o1, k2, ?_, fun b hb => ?_⟩
    · rw [k1, ← e]
      refine List.nodup_append.2 ⟨r4, hrn, fun n hn c hc ec => ?_⟩
      subst ec
      obtain ⟨q, hq, hb⟩ := mem_rbs.1 hc
      obtain ⟨x, hx⟩ := hhas q hq
      exact hnb_row n q x hn hx hb
    · rw [k1, ← e] at hb
      rcases List.mem_append.1 hb with hb | hb
      · exact (r5 b hb).1
      · obtain ⟨q, hq, hb⟩ := mem_rbs.1 hb
        exact hrow q b hq hb (hhas q hq)
  | true =>
    rw [hvrc] at ho
    simp only [if_true] at ho ⊢
    have hno := hvr hvrc
    have hpin := noOuts_ptr hno
    rw [r1] at lb
    have hhas := own_has ho lb
    have hO := own_rep (w' := w') hs.tb ho lb h1 fun q hq b hb => rfl
    obtain ⟨Os, k1, k2⟩ := h2 _ _ hO
    have hrn := rbs_nodup hs.tb hnd hhas
    refine ⟨rcs, nb, [], Os, r6, ⟨rfl, kept_pcs hk hpin, ?_⟩, k2, ?_, fun b hb => ?_⟩
    · rw [r1] at la
      refine rd_rep hs.tb (fun rs b hv => ?_) (fun r x b hx hb => ?_) la r2
      · refine ⟨hv.lt, fun hn => ?_, ?_⟩
        · obtain ⟨_, o', x', q1, q2⟩ := r5 b hn
          exact hv.bx o' x' q1 q2.symm
        · rcases hv.old with h | h | ⟨j, h⟩
          · exact .inl h
          · exact .inr (.inl h)
          · rcases may_cases h with h | ⟨i, t, m, g, off, m1, _, _⟩
            · exact .inr (.inr h)
            · have := hpin _ (List.mem_of_getElem? m1); simp [PM.pinned] at this
      · refine ⟨Sim.lt_row hs.tb hx hb, fun hn => hnb_row b r x hn hx hb, ?_⟩
        rcases mine_all ((hs.tb.rows r x hx).mine b hb) with h | h
        · exact .inr (.inl h)
        · exact .inr (.inr h)
    · rw [k1, List.nil_append]
      refine List.nodup_append.2 ⟨r4, hrn, fun n hn c hc ec => ?_⟩
      subst ec
      obtain ⟨q, hq, hb⟩ := mem_rbs.1 hc
      obtain ⟨x, hx⟩ := hhas q hq
      exact hnb_row n q x hn hx hb
    · rw [k1, List.nil_append] at hb
      rcases List.mem_append.1 hb with hb | hb
      · exact (r5 b hb).1
      · obtain ⟨q, hq, hb⟩ := mem_rbs.1 hb
        exact hrow q b hq hb (hhas q hq)
end
end Go.Ri
/- A function: regions, pieces, loops, and the contract. -/
namespace Go.Ri

/-! ### regions -/
theorem wp_dst {P : Program} {o : Oper} {a : Act} {w : World} {next : Act → World → Prop} {Q : Exit → Act → World → Prop} (h : o.wp P a w next Q) :
    o.wp P a w (fun a' w' => (∃ v, a'.tmps = (a.put o.dst v).tmps) ∧ next a' w') Q := by
  unfold Oper.wp at *
  generalize (execOp a.eval o).run P w = r at *
  cases r with
  | ok n w' =>
    cases n <;> simp only [Oper.upon] at h ⊢
    case value v => exact ⟨⟨v, rfl⟩, h⟩
    case skip => exact ⟨⟨undef, rfl⟩, h⟩
    case defer d => refine ⟨⟨undef, ?_⟩, h⟩; cases o.dst <;> rfl
    case enter f args => exact Calls.mono h fun e w'' he => by cases e <;> first | exact ⟨⟨_, rfl⟩, he⟩ | exact he
    case row row args => exact Rows.mono h fun v w'' he => ⟨⟨v, rfl⟩, he⟩
  | halt x w' => cases x <;> simp only [Oper.upon] at h ⊢ <;> exact h
section
variable {R : Type} {C : Cx R}
theorem Sim.undef {E : Env} {s : St} {tm : Array Value} {w : World} {W : Wit} (h : Sim E s tm w W) (d : Option Nat) : Sim E (s.undef d) (Act.put ⟨tm, []⟩ d Go.undef).tmps w W := by
  cases d with
  | none => exact h
  | some d => exact h.put (some d) (sv := .und) (v := Go.undef) rfl
theorem Cx.Inv.put {s s' : St} {a : Act} {w w' : World} (h : C.Inv s a w) {d : Option Nat} (hd : ∀ i, d = some i → i ∉ C.pins) {a' : Act} {v : Value} (ht : a'.tmps = (a.put d v).tmps) (hs : ∃ W, Sim C.E s' a'.tmps w' W) (hf : a'.defers = a.defers) : C.Inv s' a' w' := by
  refine ⟨hs, hf.trans h.defers, fun i hi => ?_⟩
  rw [ht, ← h.pins i hi]
  cases d with
  | none => rfl
  | some d =>
    have : d ≠ i := fun e => hd d rfl (e ▸ hi)
    simp only [Act.put]
    rw [Array.getElem?_setIfInBounds_ne this]
/-- what is asked of an operation -/
structure Cx.OperOk (C : Cx R) (Γ : List (Nat × Ctr)) (o : Oper) : Prop where
  eff : ∀ s s', (Ri.eff C.T Γ s o).opt = some s' → OpOk C.E C.P o s s'
  pin : ∀ i, o.dst = some i → i ∉ C.pins
theorem Cx.wanted {s s' : St} {a : Act} {w : World} {Γ : List (Nat × Ctr)} {ops : Array Oper} {o : Oper} (hi : C.Inv s a w) (h : stepO C.T Γ ops.toList s o = some s') :
    (Region.wanted o (yielded ops a.tmps) = true ∧ (Ri.eff C.T Γ s o).opt = some s') ∨ (Region.wanted o (yielded ops a.tmps) = false ∧ s' = s.undef o.dst) := by
  unfold stepO at h
  split at h
  · rename_i hg; exact .inl ⟨by simp [Region.wanted, hg], h⟩
  · rename_i j want hg
    split at h
    rotate_left
    · cases h
    rename_i d hd
    have hy : yielded ops a.tmps j = match a.tmps[d]? with | some (.bool b) => some b | _ => none := by
      unfold yielded
      have e : (ops[j]?).bind (·.dst) = some d := by
        unfold dstOf at hd
        split at hd
        · rename_i o' ho
          rw [lnth_get, Array.getElem?_toList] at ho
          rw [ho]; exact hd
        · cases hd
      rw [e]; rfl
    obtain ⟨W, hs⟩ := hi.sim
    split at h
    · rename_i b hb
      obtain ⟨v, hv, hr⟩ := hs.slots d _ hb
      have hv2 : v = .bool b := hr.1
      rw [hv, hv2] at hy
      simp only at hy
      split at h
      · rename_i e; exact .inl ⟨by simp [Region.wanted, hg, hy, e], h⟩
      · rename_i e; cases h; exact .inr ⟨by simp [Region.wanted, hg, hy, e], rfl⟩
    · rename_i hb
      obtain ⟨v, hv, hr⟩ := hs.slots d _ hb
      have hv2 : v = Go.undef := hr
      rw [hv, hv2] at hy
      cases h
      exact .inr ⟨by simp only [Region.wanted, hg, hy]; rfl, rfl⟩
    · cases h
theorem Cx.step_ok {s s' : St} {a : Act} {w : World} {Γ : List (Nat × Ctr)} {ops : Array Oper} {o : Oper} (ho : C.OperOk Γ o) (hi : C.Inv s a w) (h : stepO C.T Γ ops.toList s o = some s') {K : Act → World → Prop} {Q : Exit → Act → World → Prop}
    (hK : ∀ a' w', C.Inv s' a' w' → K a' w') : if Region.wanted o (yielded ops a.tmps) = true then o.wp C.P a w K Q else K (a.put o.dst undef) w := by
  obtain ⟨W, hs⟩ := hi.sim
  rcases Cx.wanted hi h with ⟨hw, he⟩ | ⟨hw, rfl⟩
  · rw [if_pos hw]
    have := wp_dst (ho.eff s s' he a w W (fun a' w' => a'.defers = a.defers ∧ ∃ W', Sim C.E s' a'.tmps w' W') Q hs fun a' w' W' hd hs' => ⟨hd, W', hs'⟩)
    refine Oper.wp_mono (fun a' w' hh => hK a' w' ?_) this
    obtain ⟨⟨v, hv⟩, hd, hs'⟩ := hh
    exact hi.put ho.pin hv hs' hd
  · rw [if_neg (by rw [hw]; simp)]
    refine hK _ _ (hi.put ho.pin rfl ⟨W, ?_⟩ (Act.put_defers ..))
    rw [Act.put_tmps]
    exact hs.undef o.dst
def Cx.QN (C : Cx R) (s' : St) : Exit → Act → World → Prop
  | .normal, a, w => C.Inv s' a w | _, _, _ => False
theorem Cx.ops_ok {Γ : List (Nat × Ctr)} {ops : Array Oper} (ho : ∀ o, o ∈ ops.toList → C.OperOk Γ o) {s' : St} : ∀ (l : List Oper) (k : Nat), (∀ j, l[j]? = ops[k + j]?) → ∀ (s : St) (a : Act) (w : World), stepsO C.T Γ ops.toList l s = some s' → C.Inv s a w →
    wpOps C.P ops (C.QN s') (List.range' k l.length) a w
  | [], k, _, s, a, w, h, hi => by simp only [stepsO, Option.some.injEq] at h; subst h; exact hi
  | o :: l, k, hl, s, a, w, h, hi => by
    have h0 : ops[k]? = some o := by simpa using (hl 0).symm
    have hm : o ∈ ops.toList := Array.mem_toList_iff.2 (Array.mem_of_getElem? h0)
    simp only [stepsO] at h
    cases h1 : stepO C.T Γ ops.toList s o with
    | none => rw [h1] at h; cases h
    | some s1 =>
      rw [h1] at h
      simp only [Option.bind_some] at h
      have hrec := Cx.ops_ok (s' := s') ho l (k + 1) (fun j => by have := hl (j + 1); simpa [Nat.add_assoc, Nat.add_comm 1 j] using this) s1
      simp only [List.length_cons, List.range'_succ, wpOps, h0]
      have := Cx.step_ok (Q := C.QN s') (ho o hm) hi h1 (fun a' w' hi' => hrec a' w' h hi')
      split
      · rename_i hw; rw [if_pos hw] at this; exact .inl this
      · rename_i hw; rw [if_neg hw] at this; exact this
theorem Cx.steps_of {ops : Array Oper} {s' : St} {l : List Nat} {a : Act} {w : World} (h : wpOps C.P ops (C.QN s') l a w) (k : List Item) : ∃ a' w', C.Inv s' a' w' ∧ Steps C.P (lone (C.b.at a (.inRegion ops l :: k)) C.cs w) (lone (C.b.at a' k) C.cs w') := by
  obtain ⟨e, a', w', hq, harr⟩ := wp_ops l a w h C.b k C.cs
  cases e with
  | normal => exact ⟨a', w', hq, harr⟩
  | _ => exact hq.elim
/-- a region whose order is fixed -/
theorem Cx.reg_ok {Γ : List (Nat × Ctr)} {ops : Array Oper} (ho : ∀ o, o ∈ ops.toList → C.OperOk Γ o) : C.RegOk Γ ops false := by
  intro s s' a w h hi id k
  have := Cx.ops_ok ho ops.toList 0 (fun j => by simp) s a w h hi
  rw [Array.length_toList, ← List.range_eq_range'] at this
  obtain ⟨a', w', h1, h2⟩ := Cx.steps_of this k
  exact ⟨a', w', h1, .head step_region h2⟩
end

/-! ### shapes -/
theorem castL_eq {a b : Ty} (h : a = b) (xs : List a.den) : True := trivial
/-- what a state brought to a shape stands for -/
def FitOk (S : Shape) : Prop := ∀ (E : Env) (s : St) (tm : Array Value) (w : World) (W : Wit) (d : DTs.den S.ds), Sim E s tm w W → S.ex (S.fit s) = some d → ∃ W', Sim E (S.fill d) tm w W'
end Go.Ri
/- A state brought to a shape. -/
namespace Go.Ri

/-! ### the data of a state, and the state of data -/
theorem lbEq_eq : ∀ {a b : List Nat}, lbEq a b = true → a = b
  | [], [], _ => rfl
  | x :: a, y :: b, h => by
    simp only [lbEq, Bool.and_eq_true] at h
    rw [Nat.eq_of_beq_eq_true h.1, lbEq_eq h.2]
  | [], _ :: _, h => by simp [lbEq] at h
  | _ :: _, [], h => by simp [lbEq] at h
theorem boEq_eq : ∀ {a b : List Bool}, boEq a b = true → a = b
  | [], [], _ => rfl
  | true :: a, true :: b, h => by rw [boEq_eq (a := a) (b := b) h]
  | false :: a, false :: b, h => by rw [boEq_eq (a := a) (b := b) h]
  | [], _ :: _, h => by simp [boEq] at h
  | _ :: _, [], h => by simp [boEq] at h
  | true :: _, false :: _, h => by simp [boEq] at h
  | false :: _, true :: _, h => by simp [boEq] at h
theorem exFn_fill : ∀ (ts : List Ty) (r : List DT) (c : List LV) (d : DTs.den r) (D : DTs.den (dsFn ts r)), exFn ts r c d = some D → fillFn ts r D = (c, d)
  | [], r, [], d, D, h => by cases h; rfl
  | [], r, _ :: _, d, D, h => by cases h
  | t :: l, r, c, d, D, h => by
    simp only [exFn] at h
    split at h
    · rename_i x c1 hx
      split at h
      · rename_i y hy
        cases h
        have := exFn_fill l r c1 d y hy
        simp only [fillFn, this]
        rw [rd_out hx, app_eq]
      · cases h
    · cases h
theorem ex1_fill (x : LS) (r : List DT) (f : Lf) (d : DTs.den r) (D : DTs.den (x.ds1 r)) (h : ex1 x r f d = some D) : fill1 x r D = (f, d) := by
  cases x with
  | int k =>
    simp only [ex1] at h
    split at h
    · split at h
      · rename_i hk; cases h; simp only [fill1, ikEq_eq hk]
      · cases h
    · cases h
  | bool =>
    simp only [ex1] at h
    split at h
    · cases h; rfl
    · cases h
  | str =>
    simp only [ex1] at h
    split at h
    · cases h; rfl
    · cases h
  | ref q =>
    simp only [ex1] at h
    split at h
    · split at h
      · rename_i hk; cases h; simp only [fill1, Nat.eq_of_beq_eq_true hk]
      · cases h
    · cases h
  | vw rs e t =>
    simp only [ex1] at h
    split at h
    · split at h
      · rename_i hk
        simp only [Bool.and_eq_true] at hk
        split at h
        · rename_i ht
          cases h
          obtain rfl := lbEq_eq hk.1
          obtain rfl := Nat.eq_of_beq_eq_true hk.2
          obtain rfl := Ty.beq_eq ht
          rfl
        · cases h
      · cases h
    · cases h
  | pbox o j =>
    simp only [ex1] at h
    split at h
    · split at h
      · rename_i hk
        simp only [Bool.and_eq_true] at hk
        cases h
        simp only [fill1, Nat.eq_of_beq_eq_true hk.1, Nat.eq_of_beq_eq_true hk.2]
      · cases h
    · cases h
  | pel q j =>
    simp only [ex1] at h
    split at h
    · split at h
      · rename_i hk
        simp only [Bool.and_eq_true] at hk
        cases h
        simp only [fill1, Nat.eq_of_beq_eq_true hk.1, Nat.eq_of_beq_eq_true hk.2]
      · cases h
    · cases h
  | pvw rs e t j =>
    simp only [ex1] at h
    split at h
    · split at h
      · rename_i hk
        simp only [Bool.and_eq_true] at hk
        split at h
        · rename_i ht
          cases h
          obtain rfl := lbEq_eq hk.1
          obtain rfl := Nat.eq_of_beq_eq_true hk.2.1
          obtain rfl := Nat.eq_of_beq_eq_true hk.2.2
          obtain rfl := Ty.beq_eq ht
          rfl
        · cases h
      · cases h
    · cases h
  | pv1 rs e t j =>
    simp only [ex1] at h
    split at h
    · rename_i t' xs i j'
      split at h
      · rename_i hk
        simp only [Bool.and_eq_true] at hk
        split at h
        · rename_i ht
          obtain rfl := lbEq_eq hk.1
          obtain rfl := Nat.eq_of_beq_eq_true hk.2.1
          obtain rfl := Nat.eq_of_beq_eq_true hk.2.2.1
          obtain rfl := Nat.eq_of_beq_eq_true hk.2.2.2
          obtain rfl := Ty.beq_eq ht
          split at h
          · cases h; rfl
          · cases h
        · cases h
      · cases h
    · cases h
  | fn g ts =>
    simp only [ex1] at h
    split at h
    · rename_i g' c
      have h2 : (if Nat.beq g' g = true then exFn ts r c d else none : Option (DTs.den (dsFn ts r))) = some D := h
      split at h2
      · rename_i hk
        simp only [fill1, exFn_fill ts r c d D h2, Nat.eq_of_beq_eq_true hk]
      · cases h2
    · cases h
  | dead =>
    simp only [ex1] at h
    split at h
    · cases h; rfl
    · cases h
theorem exL_fill : ∀ (ls : List LS) (r : List DT) (f : List Lf) (d : DTs.den r) (D : DTs.den (dsL ls r)), exL ls r f d = some D → fillL ls r D = (f, d)
  | [], r, [], d, D, h => by cases h; rfl
  | [], r, _ :: _, d, D, h => by cases h
  | x :: l, r, [], d, D, h => by cases h
  | x :: l, r, y :: f, d, D, h => by
    simp only [exL] at h
    split at h
    · rename_i z hz
      simp only [fillL, ex1_fill x _ y z D h, exL_fill l r f d z hz]
    · cases h
theorem exOrg_some {α : Type} {q : Nat} {g : Option (Nat × Nat)} {o : Option α} {D : Nat × α} (h : exOrg q g o = some D) : ∃ i u, g = some (q, i) ∧ o = some u ∧ D = (i, u) := by
  unfold exOrg at h
  split at h
  · rename_i q' i
    split at h
    · rename_i hk
      split at h
      · rename_i u; cases h; exact ⟨i, u, by rw [Nat.eq_of_beq_eq_true hk], rfl, rfl⟩
      · cases h
    · cases h
  · cases h
theorem exV_fill (x : Option VS) (r : List DT) (f : Option SV) (d : DTs.den r) (D : DTs.den (dsV x r)) (h : exV x r f d = some D) : fillV x r D = (f, d) := by
  cases x with
  | none =>
    cases f with
    | none => cases h; rfl
    | some _ => cases h
  | some v =>
    cases f with
    | none => cases v with
      | one x => cases h
      | agg ls o => cases o <;> cases h
    | some g =>
      cases v with
      | one x =>
        cases g with
        | one y => exact congrArg (fun p : Lf × DTs.den r => (some (SV.one p.1), p.2)) (ex1_fill x r y d D h)
        | _ => cases h
      | agg ls o =>
        cases o with
        | none =>
          cases g with
          | agg y o' =>
            cases o' with
            | none => exact congrArg (fun p : List Lf × DTs.den r => (some (SV.agg p.1 none), p.2)) (exL_fill ls r y d D h)
            | some _ => cases h
          | _ => cases h
        | some q =>
          cases g with
          | agg y g =>
            obtain ⟨i, u, rfl, hu, rfl⟩ := exOrg_some (show exOrg q g (exL ls r y d) = some D from h)
            exact congrArg (fun p : List Lf × DTs.den r => (some (SV.agg p.1 (some (q, i))), p.2)) (exL_fill ls r y d u hu)
          | _ => cases h
theorem exSl_fill : ∀ (l : List (Option VS)) (r : List DT) (f : List (Option SV)) (d : DTs.den r) (D : DTs.den (dsSl l r)), exSl l r f d = some D → fillSl l r D = (f, d)
  | [], r, [], d, D, h => by cases h; rfl
  | [], r, _ :: _, d, D, h => by cases h
  | x :: l, r, [], d, D, h => by cases h
  | x :: l, r, y :: f, d, D, h => by
    simp only [exSl] at h
    split at h
    · rename_i z hz
      simp only [fillSl, exV_fill x _ y z D h, exSl_fill l r f d z hz]
    · cases h
theorem exBx_fill : ∀ (l : List (List LS × List Bool)) (r : List DT) (f : List (Option Bx)) (d : DTs.den r) (D : DTs.den (dsBx l r)), exBx l r f d = some D → fillBx l r D = (f, d)
  | [], r, [], d, D, h => by cases h; rfl
  | [], r, _ :: _, d, D, h => by cases h
  | (ls, lk) :: l, r, f, d, D, h => by
    simp only [exBx] at h
    split at h
    · split at h
      · rename_i hk
        split at h
        · rename_i z hz
          simp only [fillBx, exL_fill _ _ _ z D h, exBx_fill l r _ d z hz, ← boEq_eq hk]
        · cases h
      · cases h
    · cases h
theorem exRw_fill : ∀ (l : List (TypeId × Ty)) (f : List (Option Row)) (D : DTs.den (dsRw l)), exRw l f = some D → (∀ r x, lget f r = some x → x.n = x.xs.length) → fillRw l D = f
  | [], [], D, h, _ => by cases h; rfl
  | [], _ :: _, D, h, _ => by cases h
  | (e, t) :: l, f, D, h, hn => by
    simp only [exRw] at h
    split at h
    · rename_i w f'
      split at h
      · rename_i hk
        split at h
        · rename_i ht
          split at h
          · rename_i x hx
            cases h
            obtain ⟨we, wt, wn, wxs⟩ := w
            obtain rfl := Nat.eq_of_beq_eq_true hk
            obtain rfl := Ty.beq_eq ht
            have h0 := hn 0 _ rfl
            dsimp only at h0
            subst h0
            simp only [fillRw, exRw_fill l f' x hx fun r y hy => hn (r + 1) y hy, castL]
          · cases h
        · cases h
      · cases h
    · cases h
theorem ex_fill (S : Shape) (s : St) (d : DTs.den S.ds) (h : S.ex s = some d) (hn : ∀ r x, s.row r = some x → x.n = x.xs.length) : S.fill d = s := by
  unfold Shape.ex at h
  split at h
  · rename_i c hc
    split at h
    · rename_i b hb
      unfold Shape.fill
      rw [exSl_fill S.sl _ s.sl b d h]
      dsimp only
      rw [exBx_fill S.bx _ s.bx c b hb]
      dsimp only
      rw [exRw_fill S.rw s.rw c hc hn]
    · cases h
  · cases h
end Go.Ri
/- A state brought to a shape: what stands for it. -/
namespace Go.Ri
section
variable {E : Env}

theorem Grows.refl (tb : Tb) (W : Wit) (w : World) : Grows tb W w tb W w := ⟨fun o x h => ⟨⟨x, h⟩, rfl⟩, fun r => RowKept.refl tb W r, fun _ _ => rfl, Nat.le_refl _, fun o x h => .inl ⟨x, h⟩, fun r x h => .inl ⟨⟨x, h⟩, rfl⟩⟩
theorem Grows.trans {a b c : Tb} {W W1 W2 : Wit} {w : World} (h : Grows a W w b W1 w) (k : Grows b W1 w c W2 w) : Grows a W w c W2 w := by
  refine ⟨fun o x hx => ?_, fun r x hx => ?_, fun _ _ => rfl, Nat.le_refl _, fun o x hx => ?_, fun r x hx => ?_⟩
  · obtain ⟨⟨y, hy⟩, e⟩ := h.box o x hx
    obtain ⟨z, e2⟩ := k.box o y hy
    exact ⟨z, e2.trans e⟩
  · obtain ⟨y, h1, h2, h3, h4, h5⟩ := h.row r x hx
    obtain ⟨z, k1, k2, k3, k4, k5⟩ := k.row r y h1
    refine ⟨z, k1, k2.trans h2, k3.trans h3, k4.trans h4, fun b B e => ?_⟩
    obtain ⟨B', e'⟩ := h5 b B e
    exact k5 b B' e'
  · rcases k.newBox o x hx with ⟨y, hy⟩ | hn
    · rcases h.newBox o y hy with h' | hn
      · exact .inl h'
      · exact .inr (by rw [(k.box o y hy).2]; exact hn)
    · exact .inr hn
  · rcases k.newRow r x hx with ⟨⟨y, hy⟩, e⟩ | hn
    · rcases h.newRow r y hy with ⟨h', e'⟩ | hn
      · exact .inl ⟨h', e.trans e'⟩
      · exact .inr (by rw [e]; exact hn)
    · exact .inr hn
theorem Grows.org {st st' : Tb} {W W' : Wit} {w w' : World} (h : Grows st W w st' W' w') (ht : TbRep E st w W) {cs : List Value} {o : Option (Nat × Nat)} (k : OrgRep st W w cs o) : OrgRep st' W' w' cs o := by
  cases o with
  | none => trivial
  | some p =>
    obtain ⟨r, i⟩ := p
    obtain ⟨x, b, B, hx, hi, hB, hl, hc⟩ := k
    refine OrgRep.core ⟨x, b, B, hx, hi, hB, hl, hc⟩ fun r' i' e => ⟨?_, fun b' B' e' => ?_⟩
    · cases e; exact h.row _
    · cases e
      exact h.heap b' (Sim.lt_row ht hx (by rw [e']; exact List.mem_cons_self ..))
theorem Grows.sv {st st' : Tb} {W W' : Wit} {w w' : World} (h : Grows st W w st' W' w') (ht : TbRep E st w W) {sv : SV} {v : Value} (k : SVRep E st W w sv v) : SVRep E st' W' w' sv v := by
  have := SVRep.map (f := id) (g := id) (fun l v => h.lf (l := l) (v := v)) (fun cs o => h.org ht) k
  rwa [mapLf_id] at this

/-- a new row that holds nothing -/
theorem nil_row {s : St} {w : World} {W : Wit} (ht : TbRep E s.tb w W) (e : TypeId) (t : Ty) :
    TbRep E (s.newRow ⟨e, t, 0, []⟩).tb w (W.addRow s.rw.length (.slice none 0 0) []) ∧ Grows s.tb W w (s.newRow ⟨e, t, 0, []⟩).tb (W.addRow s.rw.length (.slice none 0 0) []) w ∧ (s.newRow ⟨e, t, 0, []⟩).tb.row s.rw.length = some ⟨e, t, 0, []⟩ := by
  have hlt : ∀ q x, s.tb.row q = some x → q < s.rw.length := fun q x h => lget_lt (l := s.rw) h
  have hrow : ∀ q z, (s.newRow ⟨e, t, 0, []⟩).tb.row q = some z → (q = s.rw.length ∧ z = ⟨e, t, 0, []⟩) ∨ (q ≠ s.rw.length ∧ s.tb.row q = some z) := by
    intro q z hz
    have hz : lget (app s.rw [some ⟨e, t, 0, []⟩]) q = some z := hz
    rw [lget_app_new] at hz
    split at hz
    · exact .inr ⟨by omega, hz⟩
    · split at hz
      · rename_i h; cases hz; exact .inl ⟨h, rfl⟩
      · cases hz
  have hold : ∀ q z, s.tb.row q = some z → (s.newRow ⟨e, t, 0, []⟩).tb.row q = some z := fun q z hz => by
    show lget (app s.rw [some _]) q = _
    rw [lget_app_new, if_pos (hlt q z hz)]; exact hz
  have hW : ∀ q, q ≠ s.rw.length → (W.addRow s.rw.length (.slice none 0 0) []).rb q = W.rb q ∧ (W.addRow s.rw.length (.slice none 0 0) []).rv q = W.rv q := fun q hq => by simp [Wit.addRow, hq]
  have hWn : (W.addRow s.rw.length (.slice none 0 0) []).rb s.rw.length = [] ∧ (W.addRow s.rw.length (.slice none 0 0) []).rv s.rw.length = .slice none 0 0 := by simp [Wit.addRow]
  have hg : Grows s.tb W w (s.newRow ⟨e, t, 0, []⟩).tb (W.addRow s.rw.length (.slice none 0 0) []) w := by
    refine ⟨fun o x h => ⟨⟨x, h⟩, rfl⟩, fun r x hx => ?_, fun _ _ => rfl, Nat.le_refl _, fun o x h => .inl ⟨x, h⟩, fun r x hx => ?_⟩
    · have hne : r ≠ s.rw.length := Nat.ne_of_lt (hlt r x hx)
      exact ⟨x, hold r x hx, rfl, rfl, (hW r hne).2, fun b B h => ⟨B, by rw [(hW r hne).1]; exact h⟩⟩
    · rcases hrow r x hx with ⟨rfl, rfl⟩ | ⟨hne, h⟩
      · right; rw [hWn.1]; intro b hb; cases hb
      · exact .inl ⟨⟨x, h⟩, (hW r hne).1⟩
  refine ⟨⟨fun o x hx => ?_, fun r x hx => ?_, fun r x r' x' hx hx' hne b hb => ?_, fun o x r x' hx hx' hb => ?_, fun o x o' x' hx hx' hne => ht.bb o x o' x' hx hx' hne, ht.frame⟩, hg, ?_⟩
  · have k := ht.boxes o x hx
    obtain ⟨cs, et, h1, h2⟩ := k.cells
    exact ⟨k.spot, ⟨cs, et, h1, hg.lfs h2⟩, k.mine⟩
  · rcases hrow r x hx with ⟨rfl, rfl⟩ | ⟨hne, h⟩
    · refine ⟨rfl, ?_, by rw [hWn.1]; exact List.nodup_nil, by rw [hWn.1]; intro b hb; cases hb⟩
      rw [hWn.1, hWn.2]
      exact .inl ⟨rfl, rfl, rfl⟩
    · have k := ht.rows r x h
      exact ⟨k.n, by rw [(hW r hne).1, (hW r hne).2]; exact k.own, by rw [(hW r hne).1]; exact k.nodup, by rw [(hW r hne).1]; exact k.mine⟩
  · rcases hrow r x hx with ⟨rfl, rfl⟩ | ⟨h1, h2⟩
    · rw [hWn.1] at hb; cases hb
    · rcases hrow r' x' hx' with ⟨rfl, rfl⟩ | ⟨k1, k2⟩
      · rw [hWn.1]; simp
      · rw [(hW r h1).1] at hb; rw [(hW r' k1).1]; exact ht.rr r x r' x' h2 k2 hne b hb
  · rcases hrow r x' hx' with ⟨rfl, rfl⟩ | ⟨h1, h2⟩
    · rw [hWn.1] at hb; cases hb
    · rw [(hW r h1).1] at hb; exact ht.br o x r x' hx h2 hb
  · show lget (app s.rw [some _]) s.rw.length = _
    rw [lget_app_new]; simp

/-- what a conversion leaves -/
structure Cv (E : Env) (w : World) (s : St) (W : Wit) (s1 : St) (W1 : Wit) : Prop where
  tb : TbRep E s1.tb w W1
  grows : Grows s.tb W w s1.tb W1 w
  sl : s1.sl = s.sl
  bx : s1.bx = s.bx
theorem Cv.refl {w : World} {s : St} {W : Wit} (h : TbRep E s.tb w W) : Cv E w s W s W := ⟨h, .refl .., rfl, rfl⟩
theorem Cv.trans {w : World} {s s1 s2 : St} {W W1 W2 : Wit} (h : Cv E w s W s1 W1) (k : Cv E w s1 W1 s2 W2) : Cv E w s W s2 W2 := ⟨k.tb, h.grows.trans k.grows, k.sl.trans h.sl, k.bx.trans h.bx⟩

theorem convL_ok {w : World} : ∀ (l : List LS) (f : List Lf) (s : St) (vs : List Value) (W : Wit), TbRep E s.tb w W → LfsRep E s.tb W w f vs → ∃ W1, Cv E w s W (convL l f s).2 W1 ∧ LfsRep E (convL l f s).2.tb W1 w (convL l f s).1 vs
  | [], f, s, vs, W, ht, hf => ⟨W, .refl ht, hf⟩
  | x :: l, [], s, vs, W, ht, hf => by
    have : convL (x :: l) [] s = ([], s) := by cases x <;> rfl
    rw [this]
    exact ⟨W, .refl ht, hf⟩
  | x :: l, y :: f, s, [], W, ht, hf => hf.elim
  | x :: l, y :: f, s, v :: vs, W, ht, hf => by
    have plain : ∀ z : Lf, convL (x :: l) (y :: f) s = (z :: (convL l f s).1, (convL l f s).2) → LfRep E s.tb W w z v → ∃ W1, Cv E w s W (convL (x :: l) (y :: f) s).2 W1 ∧ LfsRep E (convL (x :: l) (y :: f) s).2.tb W1 w (convL (x :: l) (y :: f) s).1 (v :: vs) := by
      intro z e hz
      obtain ⟨W1, h1, h2⟩ := convL_ok l f s vs W ht hf.2
      rw [e]
      exact ⟨W1, h1, ⟨h1.grows.lf hz, hf.1.2⟩, h2⟩
    cases x with
    | ref q =>
      cases y with
      | nil e t =>
        obtain ⟨k1, k2, k3⟩ := nil_row ht e t
        obtain ⟨W1, h1, h2⟩ := convL_ok l f (s.newRow ⟨e, t, 0, []⟩) vs _ k1 (k2.lfs hf.2)
        have ee : convL (.ref q :: l) (.nil e t :: f) s = (.ref (llen s.rw) :: (convL l f (s.newRow ⟨e, t, 0, []⟩)).1, (convL l f (s.newRow ⟨e, t, 0, []⟩)).2) := rfl
        rw [ee, llen_eq]
        refine ⟨W1, (Cv.mk k1 k2 rfl rfl).trans h1, ⟨h1.grows.lf ?_, hf.1.2⟩, h2⟩
        refine ⟨⟨_, k3⟩, ?_⟩
        rw [show v = _ from hf.1.1]; simp [Wit.addRow]
      | _ => exact plain _ rfl hf.1.1
    | vw rs e t =>
      cases y with
      | ref r =>
        obtain ⟨⟨x, hx⟩, hv⟩ := hf.1.1
        have hx' : s.row r = some x := hx
        refine plain (.vw [r] x.e x.t x.xs) ?_ ?_
        · show (match s.row r with
            | some w => match convL l f s with | (a, b) => (Lf.vw [r] w.e w.t w.xs :: a, b)
            | none => match convL l f s with | (a, b) => (Lf.dead :: a, b)) = _
          rw [hx']
        · rw [hv]
          exact OwT.vw E.By (ht.rows r x hx).own fun b hb => vis_of_row ht hx hb
      | nil e' t' =>
        refine plain (.vw [] e' t' []) rfl ?_
        rw [show v = _ from hf.1.1]
        exact ⟨none, 0, 0, rfl, rfl, by simp, ⟨by simp [room], by simp⟩, fun h => absurd h (by omega)⟩
      | _ => exact plain _ rfl hf.1.1
    | dead => exact plain .dead rfl trivial
    | int k => exact plain y rfl hf.1.1
    | bool => exact plain y rfl hf.1.1
    | str => exact plain y rfl hf.1.1
    | pbox o j => exact plain y rfl hf.1.1
    | pel q j => exact plain y rfl hf.1.1
    | pvw rs e t j => exact plain y rfl hf.1.1
    | pv1 rs e t j => exact plain y rfl hf.1.1
    | fn g ts => exact plain y rfl hf.1.1

def SlotsOk (E : Env) (w : World) (tb : Tb) (W : Wit) (val : Nat → Option Value) (l : List (Option SV)) : Prop := ∀ i sv, lget l i = some sv → ∃ v, val i = some v ∧ SVRep E tb W w sv v
theorem SlotsOk.tail {w : World} {tb : Tb} {W : Wit} {val : Nat → Option Value} {a : Option SV} {l : List (Option SV)} (h : SlotsOk E w tb W val (a :: l)) : SlotsOk E w tb W (fun i => val (i + 1)) l := fun i sv hs => h (i + 1) sv hs
theorem SlotsOk.grow {w : World} {s s1 : St} {W W1 : Wit} {val : Nat → Option Value} {l : List (Option SV)} (h : SlotsOk E w s.tb W val l) (ht : TbRep E s.tb w W) (c : Cv E w s W s1 W1) : SlotsOk E w s1.tb W1 val l := fun i sv hs => by
  obtain ⟨v, h1, h2⟩ := h i sv hs
  exact ⟨v, h1, c.grows.sv ht h2⟩
theorem SlotsOk.cons {w : World} {tb : Tb} {W : Wit} {val : Nat → Option Value} {a : Option SV} {l : List (Option SV)} (h : ∀ sv, a = some sv → ∃ v, val 0 = some v ∧ SVRep E tb W w sv v) (k : SlotsOk E w tb W (fun i => val (i + 1)) l) : SlotsOk E w tb W val (a :: l) := fun i sv hs => by
  cases i with
  | zero => exact h sv hs
  | succ i => exact k i sv hs
theorem convSl_ok {w : World} : ∀ (l : List (Option VS)) (f : List (Option SV)) (s : St) (val : Nat → Option Value) (W : Wit), TbRep E s.tb w W → SlotsOk E w s.tb W val f →
    ∃ W1, Cv E w s W (convSl l f s).2 W1 ∧ SlotsOk E w (convSl l f s).2.tb W1 val (convSl l f s).1 ∧ (convSl l f s).1.length ≤ f.length
  | [], f, s, val, W, ht, hf => ⟨W, .refl ht, fun i sv h => by simp [convSl, lget] at h, by simp [convSl]⟩
  | x :: l, [], s, val, W, ht, hf => by
    have : convSl (x :: l) [] s = ([], s) := by
      cases x with
      | none => rfl
      | some v => cases v <;> rfl
    rw [this]
    exact ⟨W, .refl ht, fun i sv h => by simp [lget] at h, by simp⟩
  | x :: l, y :: f, s, val, W, ht, hf => by
    have plain : convSl (x :: l) (y :: f) s = (none :: (convSl l f s).1, (convSl l f s).2) → ∃ W1, Cv E w s W (convSl (x :: l) (y :: f) s).2 W1 ∧ SlotsOk E w (convSl (x :: l) (y :: f) s).2.tb W1 val (convSl (x :: l) (y :: f) s).1 ∧ (convSl (x :: l) (y :: f) s).1.length ≤ (y :: f).length := by
      intro e
      obtain ⟨W1, h1, h2, h3⟩ := convSl_ok l f s _ W ht hf.tail
      rw [e]
      exact ⟨W1, h1, .cons (fun sv h => by cases h) h2, by simp; omega⟩
    cases x with
    | none => exact plain (by cases y <;> rfl)
    | some x =>
      cases y with
      | none => exact plain (by cases x <;> rfl)
      | some y =>
        obtain ⟨v, hv, hr⟩ := hf 0 y rfl
        cases x with
        | one x =>
          cases y with
          | one z =>
            obtain ⟨W1, h1, h2⟩ := convL_ok [x] [z] s [v] W ht ⟨hr, trivial⟩
            obtain ⟨W2, k1, k2, k3⟩ := convSl_ok l f (convL [x] [z] s).2 _ W1 h1.tb (hf.tail.grow ht h1)
            have e : convSl (some (.one x) :: l) (some (.one z) :: f) s = (oneSV (convL [x] [z] s).1 :: (convSl l f (convL [x] [z] s).2).1, (convSl l f (convL [x] [z] s).2).2) := rfl
            rw [e]
            refine ⟨W2, h1.trans k1, .cons (fun sv h => ?_) k2, by simp; omega⟩
            have hlen := LfsRep_len h2
            obtain ⟨u, hu⟩ := List.length_eq_one_iff.1 (show (convL [x] [z] s).1.length = 1 from hlen)
            rw [hu] at h h2
            simp only [oneSV, Option.some.injEq] at h
            subst h
            exact ⟨v, hv, k1.grows.lf h2.1.1, h2.1.2⟩
          | _ => exact plain rfl
        | agg ls o =>
          cases y with
          | agg z g =>
            obtain ⟨cs, rfl, hl, hg⟩ := hr
            obtain ⟨W1, h1, h2⟩ := convL_ok ls z s cs.toList W ht hl
            obtain ⟨W2, k1, k2, k3⟩ := convSl_ok l f (convL ls z s).2 _ W1 h1.tb (hf.tail.grow ht h1)
            have e : convSl (some (.agg ls o) :: l) (some (.agg z g) :: f) s = (some (.agg (convL ls z s).1 (keepOrg o g)) :: (convSl l f (convL ls z s).2).1, (convSl l f (convL ls z s).2).2) := rfl
            rw [e]
            refine ⟨W2, h1.trans k1, .cons (fun sv h => ?_) k2, by simp; omega⟩
            cases h
            refine ⟨_, hv, cs, rfl, k1.grows.lfs h2, ?_⟩
            cases o with
            | none => trivial
            | some q => exact k1.grows.org h1.tb (h1.grows.org ht hg)
          | _ => exact plain rfl

/-- boxes in a new order -/
def BoxesOk (E : Env) (w : World) (tb0 tb : Tb) (W : Wit) : List Nat → List (Option Bx) → Prop
  | [], [] => True
  | o :: rb, y :: l => (match tb0.box o, y with
    | some x, some y => y.lk = x.lk ∧ BxRep E tb W w y (W.bx o)
    | none, none => True
    | _, _ => False) ∧ BoxesOk E w tb0 tb W rb l
  | _, _ => False
theorem BoxesOk.grow {w : World} {tb0 : Tb} {s s1 : St} {W W1 : Wit} (c : Cv E w s W s1 W1) (h0 : ∀ o x, tb0.box o = some x → s.tb.box o = some x) : ∀ {rb : List Nat} {l : List (Option Bx)}, BoxesOk E w tb0 s.tb W rb l → BoxesOk E w tb0 s1.tb W1 rb l
  | [], [], _ => trivial
  | o :: rb, y :: l, h => by
    refine ⟨?_, BoxesOk.grow c h0 h.2⟩
    have h1 := h.1
    cases hx : tb0.box o with
    | none => rw [hx] at h1; cases y <;> exact h1
    | some x =>
      rw [hx] at h1
      cases y with
      | none => exact h1
      | some y =>
        obtain ⟨k1, k2⟩ := h1
        refine ⟨k1, ?_⟩
        rw [(c.grows.box o x (h0 o x hx)).2]
        obtain ⟨cs, e, g1, g2⟩ := k2.cells
        exact ⟨k2.spot, ⟨cs, e, g1, c.grows.lfs g2⟩, k2.mine⟩
  | [], _ :: _, h => h.elim
  | _ :: _, [], h => h.elim
theorem convBx_ok {w : World} : ∀ (rb : List Nat) (l : List (List LS × List Bool)) (s : St) (W : Wit), TbRep E s.tb w W → ∃ W1, Cv E w s W (convBx l rb s).2 W1 ∧ BoxesOk E w s.tb (convBx l rb s).2.tb W1 rb (convBx l rb s).1
  | [], l, s, W, ht => by
    have : convBx l [] s = ([], s) := by cases l <;> rfl
    rw [this]
    exact ⟨W, .refl ht, trivial⟩
  | o :: rb, [], s, W, ht => by
    obtain ⟨W1, h1, h2⟩ := convBx_ok rb [] s W ht
    have e : convBx [] (o :: rb) s = (s.box o :: (convBx [] rb s).1, (convBx [] rb s).2) := rfl
    rw [e]
    refine ⟨W1, h1, ?_, h2⟩
    have ebox : s.tb.box o = s.box o := rfl
    cases hx : s.box o with
    | none => rw [ebox, hx]; trivial
    | some x =>
      rw [ebox, hx]
      refine ⟨rfl, ?_⟩
      have k2 := ht.boxes o x hx
      obtain ⟨cs, e, g1, g2⟩ := k2.cells
      rw [(h1.grows.box o x hx).2]
      exact ⟨k2.spot, ⟨cs, e, g1, h1.grows.lfs g2⟩, k2.mine⟩
  | o :: rb, (ls, lk) :: l, s, W, ht => by
    have ebox : s.tb.box o = s.box o := rfl
    cases hx : s.box o with
    | none =>
      obtain ⟨W1, h1, h2⟩ := convBx_ok rb l s W ht
      have e : convBx ((ls, lk) :: l) (o :: rb) s = (none :: (convBx l rb s).1, (convBx l rb s).2) := by simp only [convBx, hx]
      rw [e]
      refine ⟨W1, h1, ?_, h2⟩
      rw [ebox, hx]; trivial
    | some x =>
      have k2 := ht.boxes o x hx
      obtain ⟨cs, et, g1, g2⟩ := k2.cells
      obtain ⟨W1, h1, h2⟩ := convL_ok ls x.ls s _ W ht g2
      obtain ⟨W2, c1, c2⟩ := convBx_ok rb l (convL ls x.ls s).2 W1 h1.tb
      have e : convBx ((ls, lk) :: l) (o :: rb) s = (some ⟨(convL ls x.ls s).1, x.lk⟩ :: (convBx l rb (convL ls x.ls s).2).1, (convBx l rb (convL ls x.ls s).2).2) := by simp only [convBx, hx]
      rw [e]
      have htb : (convL ls x.ls s).2.tb.bx = s.tb.bx := h1.bx
      refine ⟨W2, h1.trans c1, ?_, ?_⟩
      · rw [ebox, hx]
        refine ⟨rfl, ?_⟩
        have hlen : (convL ls x.ls s).1.length = x.ls.length := by rw [LfsRep_len h2, ← LfsRep_len g2]
        rw [((h1.trans c1).grows.box o x hx).2]
        refine ⟨k2.spot, ⟨cs, et, g1, ?_⟩, fun j hj hl => k2.mine j (by dsimp only at hj; omega) hl⟩
        dsimp only
        rw [hlen]
        exact c1.grows.lfs h2
      · have : ∀ o', s.tb.box o' = (convL ls x.ls s).2.tb.box o' := fun o' => by simp only [Tb.box, htb]
        have aux : ∀ {rb : List Nat} {l : List (Option Bx)} {tb : Tb} {W : Wit}, BoxesOk E w (convL ls x.ls s).2.tb tb W rb l → BoxesOk E w s.tb tb W rb l := by
          intro rb
          induction rb with
          | nil => intro l tb W h; cases l <;> exact h
          | cons o' rb ih =>
            intro l tb W h
            cases l with
            | nil => exact h.elim
            | cons y l => exact ⟨by rw [this]; exact h.1, ih h.2⟩
        exact aux c2
end
end Go.Ri
/- A state brought to a shape: numbers anew. -/
namespace Go.Ri
section
variable {E : Env}
theorem idxN_some : ∀ {l : List Nat} {n i q : Nat}, idxN n i l = some q → i ≤ q ∧ l[q - i]? = some n
  | [], n, i, q, h => by simp [idxN] at h
  | a :: l, n, i, q, h => by
    simp only [idxN] at h
    split at h
    · rename_i e; cases h; exact ⟨Nat.le_refl _, by simp [Nat.eq_of_beq_eq_true e]⟩
    · obtain ⟨h1, h2⟩ := idxN_some h
      refine ⟨by omega, ?_⟩
      rw [show q - i = (q - (i + 1)) + 1 by omega]
      simpa using h2
theorem idxN_of : ∀ {l : List Nat} {n i k : Nat}, l.Nodup → l[k]? = some n → idxN n i l = some (i + k)
  | a :: l, n, i, 0, _, h => by simp at h; subst h; simp [idxN, Nat.beq_refl]
  | a :: l, n, i, k + 1, hn, h => by
    have h' : l[k]? = some n := by simpa using h
    have hne : a ≠ n := fun e => by subst e; exact (List.nodup_cons.1 hn).1 (List.mem_of_getElem? h')
    simp only [idxN]
    rw [if_neg (fun e => hne (Nat.eq_of_beq_eq_true e)), idxN_of (List.nodup_cons.1 hn).2 h']
    congr 1; omega
  | [], n, i, k, _, h => by simp at h
theorem lget_lmap {α β : Type} (f : α → Option β) : ∀ (l : List α) (q : Nat), lget (lmap f l) q = (l[q]?).bind f
  | [], q => by simp [lmap, lget]
  | a :: l, 0 => by simp [lmap, lget]
  | a :: l, q + 1 => by simp [lmap, lget, lget_lmap f l q]
theorem renRs_mem {rr : List Nat} (hn : rr.Nodup) : ∀ {rs : List Nat} {r q : Nat}, r ∈ rs → rr[q]? = some r → q ∈ renRs rr rs
  | a :: rs, r, q, h, hq => by
    simp only [renRs]
    rcases List.mem_cons.1 h with rfl | h
    · rw [idxN_of hn hq, Nat.zero_add]; exact List.mem_cons_self ..
    · have := renRs_mem hn h hq
      split
      · exact List.mem_cons_of_mem _ this
      · exact this
  | [], r, q, h, _ => by cases h

/-- the witness behind new numbers -/
def Wit.ren (W : Wit) (rb rr : List Nat) : Wit := ⟨fun k => W.bx (rb.getD k 0), fun k => W.rv (rr.getD k 0), fun k => W.rb (rr.getD k 0)⟩
structure Ren (E : Env) (w : World) (tb : Tb) (W : Wit) (rb rr : List Nat) (tb' : Tb) : Prop where
  nb : rb.Nodup
  nr : rr.Nodup
  row : ∀ q, tb'.row q = (rr[q]?).bind tb.row
  boxOf : ∀ q y, tb'.box q = some y → ∃ o x, rb[q]? = some o ∧ tb.box o = some x
  boxTo : ∀ q o x, rb[q]? = some o → tb.box o = some x → ∃ y, tb'.box q = some y
theorem getD_of {l : List Nat} {q r d : Nat} (h : l[q]? = some r) : l.getD q d = r := by rw [List.getD_eq_getElem?_getD, h]; rfl
theorem Ren.vis {w : World} {tb tb' : Tb} {W : Wit} {rb rr : List Nat} (h : Ren E w tb W rb rr tb') {rs : List Nat} {b : Nat} (k : Vis E tb W w rs b) : Vis E tb' (W.ren rb rr) w (renRs rr rs) b := by
  refine ⟨k.lt, fun q y hy e => ?_, fun q y hy hb => ?_, k.old⟩
  · obtain ⟨o, x, h1, h2⟩ := h.boxOf q y hy
    simp only [Wit.ren, getD_of h1] at e
    exact k.bx o x h2 e
  · rw [h.row] at hy
    cases hq : rr[q]? with
    | none => rw [hq] at hy; cases hy
    | some r =>
      rw [hq] at hy
      simp only [Wit.ren, getD_of hq] at hb
      exact renRs_mem h.nr (k.rw r y hy hb) hq
theorem Ren.lf {w : World} {tb tb' : Tb} {W : Wit} {rb rr : List Nat} (h : Ren E w tb W rb rr tb') {l : Lf} {v : Value} (k : LfRep E tb W w l v) : LfRep E tb' (W.ren rb rr) w (l.ren rb rr) v := by
  cases l with
  | int | bool | str | nil | dead | fn => exact k
  | ref r =>
    obtain ⟨⟨x, hx⟩, hv⟩ := k
    simp only [Lf.ren]
    split
    · rename_i q hq
      obtain ⟨_, h2⟩ := idxN_some hq
      rw [Nat.sub_zero] at h2
      refine ⟨⟨x, by rw [h.row, h2]; exact hx⟩, ?_⟩
      simp only [Wit.ren, getD_of h2]; exact hv
    · trivial
  | vw rs e t xs => exact VwT.frame E.By k fun b hb => ⟨h.vis hb, rfl⟩
  | pbox o j =>
    obtain ⟨⟨x, hx⟩, hv⟩ := k
    simp only [Lf.ren]
    split
    · rename_i q hq
      obtain ⟨_, h2⟩ := idxN_some hq
      rw [Nat.sub_zero] at h2
      refine ⟨h.boxTo q o x h2 hx, ?_⟩
      simp only [Wit.ren, getD_of h2]; exact hv
    · trivial
  | pel r i j =>
    obtain ⟨x, b, B, hx, hi, hB, hv⟩ := k
    simp only [Lf.ren]
    split
    · rename_i q hq
      obtain ⟨_, h2⟩ := idxN_some hq
      rw [Nat.sub_zero] at h2
      refine ⟨x, b, B, by rw [h.row, h2]; exact hx, hi, ?_, hv⟩
      simp only [Wit.ren, getD_of h2]; exact hB
    · trivial
  | pvw rs e t xs i j =>
    obtain ⟨hi, a, ha, hv, cs, hl, hc, hw⟩ := k
    exact ⟨hi, a, h.vis ha, hv, cs, hl, hc, VwT.frame E.By hw fun b hb => ⟨h.vis hb, rfl⟩⟩
theorem Ren.org {w : World} {tb tb' : Tb} {W : Wit} {rb rr : List Nat} (h : Ren E w tb W rb rr tb') {cs : List Value} {o : Option (Nat × Nat)} (k : OrgRep tb W w cs o) : OrgRep tb' (W.ren rb rr) w cs (renOrg rr o) := by
  cases o with
  | none => trivial
  | some p =>
    obtain ⟨r, i⟩ := p
    obtain ⟨x, b, B, hx, hi, hB, hl, hc⟩ := k
    simp only [renOrg]
    split
    · rename_i q hq
      obtain ⟨_, h2⟩ := idxN_some hq
      rw [Nat.sub_zero] at h2
      refine ⟨x, b, B, by rw [h.row, h2]; exact hx, hi, ?_, hl, hc⟩
      simp only [Wit.ren, getD_of h2]; exact hB
    · trivial
theorem BoxesOk.at {w : World} {tb0 tb : Tb} {W : Wit} : ∀ {rb : List Nat} {l : List (Option Bx)} {q : Nat} {y : Bx}, BoxesOk E w tb0 tb W rb l → lget l q = some y → ∃ o x, rb[q]? = some o ∧ tb0.box o = some x ∧ y.lk = x.lk ∧ BxRep E tb W w y (W.bx o)
  | o :: rb, z :: l, 0, y, h, hy => by
    simp only [lget] at hy
    subst hy
    have h1 := h.1
    cases hx : tb0.box o with
    | none => rw [hx] at h1; exact h1.elim
    | some x => rw [hx] at h1; exact ⟨o, x, rfl, hx, h1⟩
  | o :: rb, z :: l, q + 1, y, h, hy => by
    obtain ⟨o', x, h1, h2⟩ := BoxesOk.at (q := q) h.2 hy
    exact ⟨o', x, by simpa using h1, h2⟩
  | [], [], q, y, _, hy => by simp [lget] at hy
  | [], _ :: _, _, _, h, _ => h.elim
  | _ :: _, [], _, _, h, _ => h.elim
theorem BoxesOk.to {w : World} {tb0 tb : Tb} {W : Wit} : ∀ {rb : List Nat} {l : List (Option Bx)} {q o : Nat} {x : Bx}, BoxesOk E w tb0 tb W rb l → rb[q]? = some o → tb0.box o = some x → ∃ y, lget l q = some y
  | o :: rb, z :: l, 0, o', x, h, ho, hx => by
    simp at ho; subst ho
    have h1 := h.1
    rw [hx] at h1
    cases z with
    | none => exact h1.elim
    | some y => exact ⟨y, rfl⟩
  | o :: rb, z :: l, q + 1, o', x, h, ho, hx => BoxesOk.to (l := l) (q := q) h.2 (by simpa using ho) hx
  | [], [], q, _, _, _, ho, _ => by simp at ho
  | [], _ :: _, _, _, _, h, _, _ => h.elim
  | _ :: _, [], _, _, _, h, _, _ => h.elim

/-- the whole relation behind new numbers -/
theorem ren_sim {w : World} {s2 : St} {tb0 : Tb} {W : Wit} {tm : Array Value} (ht : TbRep E s2.tb w W) {rb rr : List Nat} (hb : rb.Nodup) (hr : rr.Nodup) {bx : List (Option Bx)} (hbx : BoxesOk E w tb0 s2.tb W rb bx) (h0 : ∀ o, tb0.box o = s2.tb.box o)
    {sl : List (Option SV)} (hsl : SlotsOk E w s2.tb W (fun i => tm[i]?) sl) (hlen : sl.length ≤ tm.size) : Sim E (finish s2.rw sl bx rb rr) tm w (W.ren rb rr) := by
  let tb' : Tb := ⟨mapBx (Lf.ren rb rr) bx, lmap (fun r => lget s2.rw r) rr⟩
  have hR : Ren E w s2.tb W rb rr tb' := by
    refine ⟨hb, hr, fun q => lget_lmap (fun r => lget s2.rw r) rr q, fun q y hy => ?_, fun q o x ho hx => ?_⟩
    · obtain ⟨z, hz, _⟩ := lget_mapBx' (show lget (mapBx (Lf.ren rb rr) bx) q = some y from hy)
      obtain ⟨o, x, h1, h2, _⟩ := hbx.at hz
      exact ⟨o, x, h1, by rw [← h0]; exact h2⟩
    · obtain ⟨y, hy⟩ := hbx.to ho (by rw [h0]; exact hx)
      exact ⟨_, by show lget (mapBx (Lf.ren rb rr) bx) q = _; rw [lget_mapBx, hy]; rfl⟩
  have hrow : ∀ q x, tb'.row q = some x → ∃ r, rr[q]? = some r ∧ s2.tb.row r = some x := fun q x h => by
    rw [hR.row] at h
    cases hq : rr[q]? with
    | none => rw [hq] at h; cases h
    | some r => rw [hq] at h; exact ⟨r, rfl, h⟩
  have hbox : ∀ q y, tb'.box q = some y → ∃ o x z, rb[q]? = some o ∧ s2.tb.box o = some x ∧ y = ⟨mapL (Lf.ren rb rr) z.ls, z.lk⟩ ∧ BxRep E s2.tb W w z (W.bx o) := fun q y hy => by
    obtain ⟨z, hz, e⟩ := lget_mapBx' (show lget (mapBx (Lf.ren rb rr) bx) q = some y from hy)
    obtain ⟨o, x, h1, h2, _, h4⟩ := hbx.at hz
    exact ⟨o, x, z, h1, by rw [← h0]; exact h2, e, h4⟩
  have inj : ∀ {l : List Nat} {q q' r : Nat}, l.Nodup → l[q]? = some r → l[q']? = some r → q = q' := fun {l q q' r} hn h h' => (List.getElem?_inj (List.getElem?_eq_some_iff.1 h).1 hn).1 (h.trans h'.symm)
  refine ⟨by show (mapSl _ _ sl).length ≤ _; rw [mapSl_length]; exact hlen, fun i sv hsv => ?_, ?_⟩
  · have hsv : lget (mapSl (Lf.ren rb rr) (renOrg rr) sl) i = some sv := hsv
    rw [lget_mapSl] at hsv
    cases e : lget sl i with
    | none => rw [e] at hsv; cases hsv
    | some sv0 =>
      rw [e] at hsv
      simp only [Option.map_some, Option.some.injEq] at hsv
      subst hsv
      obtain ⟨v, h1, h2⟩ := hsl i sv0 e
      exact ⟨v, h1, SVRep.map (fun l v => hR.lf) (fun cs o => hR.org) h2⟩
  · refine ⟨fun q y hy => ?_, fun q x hx => ?_, fun q x q' x' hx hx' hne b hb' => ?_, fun q y r x hy hx hb' => ?_, fun q y q' y' hy hy' hne e => ?_, ht.frame⟩
    · obtain ⟨o, x, z, h1, h2, rfl, h4⟩ := hbox q y hy
      have ew : (W.ren rb rr).bx q = W.bx o := by simp only [Wit.ren, getD_of h1]
      rw [ew]
      obtain ⟨cs, e, g1, g2⟩ := h4.cells
      refine ⟨h4.spot, ⟨cs, e, g1, ?_⟩, fun j hj hl => h4.mine j (by rw [mapL_length] at hj; exact hj) hl⟩
      rw [mapL_length]
      exact LfsRep.map (fun l v => hR.lf) g2
    · obtain ⟨r, h1, h2⟩ := hrow q x hx
      have k := ht.rows r x h2
      have e1 : (W.ren rb rr).rb q = W.rb r := by simp only [Wit.ren, getD_of h1]
      have e2 : (W.ren rb rr).rv q = W.rv r := by simp only [Wit.ren, getD_of h1]
      exact ⟨k.n, by rw [e1, e2]; exact k.own, by rw [e1]; exact k.nodup, by rw [e1]; exact k.mine⟩
    · obtain ⟨r, h1, h2⟩ := hrow q x hx
      obtain ⟨r', h1', h2'⟩ := hrow q' x' hx'
      simp only [Wit.ren, getD_of h1] at hb'
      simp only [Wit.ren, getD_of h1']
      exact ht.rr r x r' x' h2 h2' (fun e => hne (inj hr h1 (e ▸ h1'))) b hb'
    · obtain ⟨o, z, _, h1, h2, _, _⟩ := hbox q y hy
      obtain ⟨r', h1', h2'⟩ := hrow r x hx
      simp only [Wit.ren, getD_of h1, getD_of h1'] at hb'
      exact ht.br o z r' x h2 h2' hb'
    · obtain ⟨o, z, _, h1, h2, _, _⟩ := hbox q y hy
      obtain ⟨o', z', _, h1', h2', _, _⟩ := hbox q' y' hy'
      simp only [Wit.ren, getD_of h1, getD_of h1'] at e
      exact ht.bb o z o' z' h2 h2' (fun e => hne (inj hb h1 (e ▸ h1'))) e

/-! ### the lists of numbers hold none twice -/
theorem addN_nodup {l : List Nat} {n : Nat} (h : l.Nodup) : (addN l n).Nodup := by
  unfold addN
  split
  · exact h
  · rename_i hm
    rw [app_eq]
    refine List.nodup_append.2 ⟨h, by simp, fun a ha b hb e => ?_⟩
    rw [List.mem_singleton] at hb
    subst e; subst hb
    exact hm (memN_iff.2 ha)
theorem boxesL_nodup : ∀ {ls : List Lf} {acc : List Nat}, acc.Nodup → (boxesL acc ls).Nodup
  | [], _, h => h
  | l :: ls, acc, h => by cases l <;> first | exact boxesL_nodup (ls := ls) (addN_nodup h) | exact boxesL_nodup (ls := ls) h
theorem boxesSl_nodup : ∀ {sl : List (Option SV)} {acc : List Nat}, acc.Nodup → (boxesSl acc sl).Nodup
  | [], _, h => h
  | none :: r, acc, h => boxesSl_nodup (sl := r) h
  | some v :: r, acc, h => boxesSl_nodup (sl := r) (boxesL_nodup h)
theorem rowsL_nodup : ∀ {ls : List Lf} {acc : List Nat}, acc.Nodup → (rowsL acc ls).Nodup
  | [], _, h => h
  | l :: ls, acc, h => by cases l <;> first | exact rowsL_nodup (ls := ls) (addN_nodup h) | exact rowsL_nodup (ls := ls) h
theorem rowsSl_nodup : ∀ {sl : List (Option SV)} {acc : List Nat}, acc.Nodup → (rowsSl acc sl).Nodup
  | [], _, h => h
  | none :: r, acc, h => rowsSl_nodup (sl := r) h
  | some v :: r, acc, h => rowsSl_nodup (sl := r) (rowsL_nodup h)
theorem rowsBx_nodup : ∀ {bx : List (Option Bx)} {acc : List Nat}, acc.Nodup → (rowsBx acc bx).Nodup
  | [], _, h => h
  | none :: r, acc, h => rowsBx_nodup (bx := r) h
  | some v :: r, acc, h => rowsBx_nodup (bx := r) (rowsL_nodup h)
theorem iota_mem : ∀ {n i k : Nat}, k ∈ iota i n → i ≤ k
  | 0, i, k, h => by cases h
  | n + 1, i, k, h => by
    rcases List.mem_cons.1 h with rfl | h
    · exact Nat.le_refl _
    · have := iota_mem h; omega
theorem iota_nodup : ∀ (n i : Nat), (iota i n).Nodup
  | 0, i => List.nodup_nil
  | n + 1, i => List.nodup_cons.2 ⟨fun h => by have := iota_mem h; omega, iota_nodup n (i + 1)⟩

theorem fit_sim (S : Shape) {s : St} {tm : Array Value} {w : World} {W : Wit} (hs : Sim E s tm w W) : ∃ W', Sim E (S.fit s) tm w W' := by
  obtain ⟨W1, h1, h2, h3⟩ := convSl_ok S.sl s.sl s (fun i => tm[i]?) W hs.tb (fun i sv h => hs.slots i sv h)
  obtain ⟨W2, k1, k2⟩ := convBx_ok (boxesSl (iota 0 S.nb) (convSl S.sl s.sl s).1) S.bx (convSl S.sl s.sl s).2 W1 h1.tb
  have hlen : (convSl S.sl s.sl s).1.length ≤ tm.size := Nat.le_trans h3 hs.len
  exact ⟨_, ren_sim (tb0 := (convSl S.sl s.sl s).2.tb) k1.tb (boxesSl_nodup (iota_nodup _ _)) (rowsBx_nodup (rowsSl_nodup (iota_nodup _ _))) k2 (fun o => by simp only [Tb.box, St.tb, k1.bx]) (h2.grow h1.tb k1) hlen⟩
/-- A state from which the data of a shape are read is stood for by the state that these data give. -/
theorem fill_sim (S : Shape) {s : St} {tm : Array Value} {w : World} {W : Wit} (hs : Sim E s tm w W) {d : DTs.den S.ds} (h : S.ex (S.fit s) = some d) : ∃ W', Sim E (S.fill d) tm w W' := by
  obtain ⟨W', hs'⟩ := fit_sim S hs
  rw [ex_fill S (S.fit s) d h fun r x hx => (hs'.tb.rows r x hx).n]
  exact ⟨W', hs'⟩
end
end Go.Ri
