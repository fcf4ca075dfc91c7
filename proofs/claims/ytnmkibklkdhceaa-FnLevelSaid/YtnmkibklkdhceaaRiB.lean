/- YtnmkibklkdhceaaRiB: part of the frame: what a function's rows compute, shown sound against the model's steps. -/
import Derived.Test.YtnmkibklkdhceaaRiA
import Derived.Laws.AppendOwn
import Derived.Laws.BitsLemmas
import Derived.Laws.Tables
import Derived.Laws.BytesArg
/- Operations that turn memory: what stays of the relation. -/
set_option linter.unusedVariables false
set_option linter.unusedSimpArgs false
namespace Go.Ri
section
variable {E : Env} {P : Program} {T : List TE}

/-! ### rows R may be turned, those of G are gone; everything else stays -/
structure Touch (G R : List Nat) (tb : Tb) (W : Wit) (w : World) (tb' : Tb) (W' : Wit) (w' : World) : Prop where
  size : w.heap.size ≤ w'.heap.size
  heap : ∀ b, b < w.heap.size → (∀ r x, r ∈ R → tb.row r = some x → b ∉ W.rb r) → (∀ o x, tb.box o = some x → b ≠ (W.bx o).block) → w'.heap[b]? = w.heap[b]?
  box : BoxKept tb W tb' W'
  newBox : ∀ o x, tb'.box o = some x → (∃ y, tb.box o = some y) ∨ w.heap.size ≤ (W'.bx o).block ∨ ∃ q y, q ∈ R ∧ tb.row q = some y ∧ (W'.bx o).block ∈ W.rb q
  row : ∀ r, r ∉ G → RowKept tb W tb' W' r
  same : ∀ r x, r ∉ R → tb.row r = some x → tb'.row r = some x ∧ W'.rb r = W.rb r ∧ W'.rv r = W.rv r
  newRow : ∀ r x, tb'.row r = some x → (r ∉ R ∧ tb.row r = some x) ∨ ∀ b, b ∈ W'.rb r → w.heap.size ≤ b ∨ ∃ q y, q ∈ R ∧ tb.row q = some y ∧ b ∈ W.rb q
theorem Touch.vis {G R : List Nat} {tb tb' : Tb} {W W' : Wit} {w w' : World} (h : Touch G R tb W w tb' W' w') {rs : List Nat} {b : Nat} (hr : ∀ r, r ∈ R → r ∉ rs) (k : Vis E tb W w rs b) : Vis E tb' W' w' rs b ∧ w'.heap[b]? = w.heap[b]? := by
  refine ⟨⟨Nat.lt_of_lt_of_le k.lt h.size, fun o x hx => ?_, fun r x hx hb => ?_, k.old⟩, h.heap b k.lt (fun r x hR hx hb => hr r hR (k.rw r x hx hb)) k.bx⟩
  · rcases h.newBox o x hx with ⟨y, hy⟩ | hn | ⟨q, y, hq, hy, hbq⟩
    · rw [(h.box o y hy).2]; exact k.bx o y hy
    · have := k.lt; omega
    · exact fun e => hr q hq (k.rw q y hy (e ▸ hbq))
  · rcases h.newRow r x hx with ⟨hR, hy⟩ | hn
    · exact k.rw r x hy ((h.same r x hR hy).2.1 ▸ hb)
    · rcases hn b hb with hn | ⟨q, y, hq, hy, hbq⟩
      · have := k.lt; omega
      · exact absurd (k.rw q y hy hbq) (hr q hq)
/-- leaves behind a touch: those that were read out of R die, those that are of G, too -/
def Lf.gone (G R : List Nat) : Lf → Bool
  | .ref r | .pel r _ _ => memN r G
  | .vw rs _ _ _ | .pvw rs _ _ _ _ _ => !disj R rs
  | _ => false
theorem disj_iff : ∀ {a b : List Nat}, disj a b = true ↔ ∀ n, n ∈ a → n ∉ b
  | [], b => by simp [disj]
  | x :: a, b => by
    simp only [disj, Bool.and_eq_true, disj_iff (a := a), List.mem_cons]
    constructor
    · rintro ⟨h1, h2⟩ n (rfl | hn)
      · intro hm; rw [memN_iff.2 hm] at h1; simp at h1
      · exact h2 n hn
    · intro h
      refine ⟨?_, fun n hn => h n (.inr hn)⟩
      cases e : memN x b with
      | false => rfl
      | true => exact absurd (memN_iff.1 e) (h x (.inl rfl))
theorem Touch.lf {G R : List Nat} {tb tb' : Tb} {W W' : Wit} {w w' : World} (h : Touch G R tb W w tb' W' w') {l : Lf} {v : Value} (hg : l.gone G R = false) (k : LfRep E tb W w l v) : LfRep E tb' W' w' l v := by
  have := LfRep.core (E := E) (w' := w') id k h.box (fun r hr => ?_) (fun rs hr b hb => h.vis (fun q hq => ?_) hb)
  · rwa [mapRs_id] at this
  · refine h.row r fun hR => ?_
    cases l <;> simp only [Lf.rowOf, Option.some.injEq, reduceCtorEq] at hr
    · subst hr; simp only [Lf.gone] at hg; rw [memN_iff.2 hR] at hg; cases hg
    · subst hr; simp only [Lf.gone] at hg; rw [memN_iff.2 hR] at hg; cases hg
  · cases l <;> simp only [Lf.roots, Option.some.injEq, reduceCtorEq] at hr
    · subst hr; simp only [Lf.gone, Bool.not_eq_false'] at hg; exact disj_iff.1 hg q hq
    · subst hr; simp only [Lf.gone, Bool.not_eq_false'] at hg; exact disj_iff.1 hg q hq
/-- a turn of leaves that lets live only what isn't gone -/
def Safe (G R : List Nat) (f : Lf → Lf) : Prop := ∀ l, f l = .dead ∨ (f l = l ∧ l.gone G R = false)
theorem Touch.lf' {G R : List Nat} {tb tb' : Tb} {W W' : Wit} {w w' : World} (h : Touch G R tb W w tb' W' w') {f : Lf → Lf} (hf : Safe G R f) {l : Lf} {v : Value} (k : LfRep E tb W w l v) : LfRep E tb' W' w' (f l) v := by
  rcases hf l with e | ⟨e, hg⟩
  · rw [e]; trivial
  · rw [e]; exact h.lf hg k
def SafeO (R : List Nat) (g : Option (Nat × Nat) → Option (Nat × Nat)) : Prop := ∀ o, g o = none ∨ (g o = o ∧ ∀ r i, o = some (r, i) → r ∉ R)
theorem Touch.org {G R : List Nat} (hGR : ∀ r, r ∈ G → r ∈ R) {tb tb' : Tb} {W W' : Wit} {w w' : World} (ht : TbRep E tb w W) (h : Touch G R tb W w tb' W' w') {g : Option (Nat × Nat) → Option (Nat × Nat)} (hg : SafeO R g) {cs : List Value} {o : Option (Nat × Nat)} (k : OrgRep tb W w cs o) : OrgRep tb' W' w' cs (g o) := by
  rcases hg o with e | ⟨e, hr⟩
  · rw [e]; trivial
  · rw [e]
    cases o with
    | none => trivial
    | some p =>
      obtain ⟨r, i⟩ := p
      obtain ⟨x, b, B, hx, hi, hB, hl, hc⟩ := k
      have hrR := hr r i rfl
      refine OrgRep.core ⟨x, b, B, hx, hi, hB, hl, hc⟩ fun q j e' => ?_
      cases e'
      refine ⟨h.row _ fun hG => hrR (hGR _ hG), fun b' B' hB' => h.heap b' ?_ (fun q y hq hy hbq => ?_) fun o y ho e => ?_⟩
      · exact OwT.lt E.By (ht.rows r x hx).own b' (by rw [hB']; exact List.mem_cons_self ..)
      · exact ht.rr r x q y hx hy (fun e => hrR (e ▸ hq)) b' (by rw [hB']; exact List.mem_cons_self ..) hbq
      · exact ht.br o y r x ho hx (by rw [← e, hB']; exact List.mem_cons_self ..)
/-- The whole relation behind a touch. -/
theorem Sim.touch {G R : List Nat} (hGR : ∀ r, r ∈ G → r ∈ R) {s : St} {tm : Array Value} {w : World} {W : Wit} (hs : Sim E s tm w W) {tb' : Tb} {W' : Wit} {w' : World} (h : Touch G R s.tb W w tb' W' w') {f : Lf → Lf} (hf : Safe G R f) {g : Option (Nat × Nat) → Option (Nat × Nat)} (hg : SafeO R g)
    (ht : TbRep E tb' w' W') : Sim E ⟨mapSl f g s.sl, tb'.bx, tb'.rw⟩ tm w' W' := by
  refine ⟨by rw [mapSl_length]; exact hs.len, fun i sv hsv => ?_, ht⟩
  simp only [St.slot, lget_mapSl] at hsv
  cases e : lget s.sl i with
  | none => rw [e] at hsv; cases hsv
  | some sv0 =>
    rw [e] at hsv
    simp only [Option.map_some, Option.some.injEq] at hsv
    subst hsv
    obtain ⟨v, hv, hr⟩ := hs.slots i sv0 e
    exact ⟨v, hv, SVRep.map (fun l v => h.lf' hf) (fun cs o => h.org hGR hs.tb hg) hr⟩

theorem nbeq {a b : Nat} : Nat.beq a b = true ↔ a = b := ⟨Nat.eq_of_beq_eq_true, fun h => by rw [h]; exact Nat.beq_refl b⟩
theorem nbeq_f {a b : Nat} (h : ¬ a = b) : Nat.beq a b = false := by
  cases e : Nat.beq a b with
  | false => rfl
  | true => exact absurd (nbeq.1 e) h
theorem safe_id : Safe [] [] id := fun l => .inr ⟨rfl, by cases l <;> rfl⟩
theorem safeO_id (R : List Nat) (h : R = []) : SafeO R id := fun o => .inr ⟨rfl, fun _ _ _ h' => by rw [h] at h'; cases h'⟩
theorem kill_gone {G : List Nat} (r : Nat) (l : Lf) (hG : ∀ q, l.rowOf = some q → q ∉ G) : l.kill r = .dead ∨ (l.kill r = l ∧ l.gone G [r] = false) := by
  cases l with
  | ref q => refine .inr ⟨rfl, ?_⟩; simp only [Lf.gone]; cases e : memN q G with
    | false => rfl
    | true => exact absurd (memN_iff.1 e) (hG q rfl)
  | pel q i j => refine .inr ⟨rfl, ?_⟩; simp only [Lf.gone]; cases e : memN q G with
    | false => rfl
    | true => exact absurd (memN_iff.1 e) (hG q rfl)
  | vw rs e t xs =>
    simp only [Lf.kill]
    split
    · exact .inl rfl
    · rename_i h; refine .inr ⟨rfl, ?_⟩; simp only [Lf.gone, disj, Bool.and_true, Bool.not_not]; simpa using h
  | pvw rs e t xs i j =>
    simp only [Lf.kill]
    split
    · exact .inl rfl
    · rename_i h; refine .inr ⟨rfl, ?_⟩; simp only [Lf.gone, disj, Bool.and_true, Bool.not_not]; simpa using h
  | _ => exact .inr ⟨rfl, rfl⟩
theorem safe_kill (r : Nat) : Safe [] [r] (Lf.kill r) := fun l => kill_gone r l fun q _ h => by cases h
theorem safe_drop (r : Nat) : Safe [r] [r] (Lf.drop r) := fun l => by
  cases l with
  | ref q =>
    simp only [Lf.drop]
    split
    · exact .inl rfl
    · rename_i h
      refine .inr ⟨rfl, ?_⟩
      simp only [Lf.gone, memN, Bool.or_false]
      exact nbeq_f fun e => h (nbeq.2 e.symm)
  | pel q i j =>
    simp only [Lf.drop]
    split
    · exact .inl rfl
    · rename_i h
      refine .inr ⟨rfl, ?_⟩
      simp only [Lf.gone, memN, Bool.or_false]
      exact nbeq_f fun e => h (nbeq.2 e.symm)
  | vw rs e t xs => exact kill_gone r (.vw rs e t xs) fun q h => by cases h
  | pvw rs e t xs i j => exact kill_gone r (.pvw rs e t xs i j) fun q h => by cases h
  | _ => exact .inr ⟨rfl, rfl⟩
theorem safeO_off (r : Nat) : SafeO [r] (offOrg r) := fun o => by
  cases o with
  | none => exact .inl rfl
  | some p =>
    obtain ⟨q, i⟩ := p
    simp only [offOrg]
    split
    · exact .inl rfl
    · rename_i h
      refine .inr ⟨rfl, fun r' i' e => ?_⟩
      cases e
      simp only [List.mem_singleton]
      intro e; subst e; exact h (Nat.beq_refl _)

/-! ### a new variable -/
theorem lget_app_new {α : Type} (l : List (Option α)) (x : α) (i : Nat) : lget (app l [some x]) i = if i < l.length then lget l i else if i = l.length then some x else none := by
  rw [lget_append]
  split
  · rfl
  · rename_i h
    split
    · rename_i e; subst e; simp [lget]
    · rename_i e
      obtain ⟨k, hk⟩ : ∃ k, i - l.length = k + 1 := ⟨i - l.length - 1, by omega⟩
      rw [hk]; rfl
def Wit.addBox (W : Wit) (n : Nat) (a : Addr) : Wit := { W with bx := fun o => if o = n then a else W.bx o }
def Wit.addRow (W : Wit) (n : Nat) (v : Value) (B : List Nat) : Wit := { W with rv := fun r => if r = n then v else W.rv r, rb := fun r => if r = n then B else W.rb r }
def Wd.alloc (w : World) (o : Obj) : World := { w with heap := w.heap.push o }
theorem alloc_old (w : World) (o : Obj) {b : Nat} (h : b < w.heap.size) : (Wd.alloc w o).heap[b]? = w.heap[b]? := by
  simp only [Wd.alloc, Array.getElem?_push]
  rw [if_neg (by omega)]
theorem alloc_new (w : World) (o : Obj) : (Wd.alloc w o).heap[w.heap.size]? = some o := by
  simp only [Wd.alloc, Array.getElem?_push, if_true]
theorem frame_alloc {M : Nat → Nat → Prop} {w0 w : World} (h : Frame' M w0 w) (o : Obj) : Frame' M w0 (Wd.alloc w o) :=
  h.trans (N := fun _ _ => False) ⟨rfl, rfl, rfl, by simp [Wd.alloc], fun b hb => KeepAt.of_eq _ (alloc_old w o hb)⟩ fun _ _ _ hf => hf.elim

/-- what the tables ask, behind a touch -/
theorem tb_touch {G R : List Nat} {tb tb' : Tb} {W W' : Wit} {w w' : World} (ht : TbRep E tb w W) (h : Touch G R tb W w tb' W' w') {f : Lf → Lf} (hf : Safe G R f)
    (hbx : ∀ o x, tb'.box o = some x → (∃ y, tb.box o = some y ∧ x = ⟨mapL f y.ls, y.lk⟩ ∧ w'.heap[(W.bx o).block]? = w.heap[(W.bx o).block]?) ∨ BxRep E tb' W' w' x (W'.bx o))
    (hrw : ∀ r x, tb'.row r = some x → (r ∉ R ∧ tb.row r = some x) ∨ RwRep E w' W' r x)
    (hrr : ∀ r x r' x', tb'.row r = some x → tb'.row r' = some x' → r ≠ r' → (r ∉ R ∧ tb.row r = some x) ∨ (r' ∉ R ∧ tb.row r' = some x') ∨ ∀ b, b ∈ W'.rb r → b ∉ W'.rb r')
    (hbr : ∀ o x r x', tb'.box o = some x → tb'.row r = some x' → (∃ y, tb.box o = some y) ∨ (r ∉ R ∧ tb.row r = some x') ∨ (W'.bx o).block ∉ W'.rb r)
    (hbb : ∀ o x o' x', tb'.box o = some x → tb'.box o' = some x' → o ≠ o' → (∃ y, tb.box o = some y) ∨ (∃ y, tb.box o' = some y) ∨ (W'.bx o).block ≠ (W'.bx o').block)
    (hfr : Frame' E.May E.w0 w') : TbRep E tb' w' W' := by
  have lt_box : ∀ {o x}, tb.box o = some x → (W.bx o).block < w.heap.size := fun {o x} hx => by
    obtain ⟨cs, e, hh, _⟩ := (ht.boxes o x hx).cells
    exact (Array.getElem?_eq_some_iff.1 hh).1
  have lt_row : ∀ {r x b}, tb.row r = some x → b ∈ W.rb r → b < w.heap.size := fun {r x b} hx hb => OwT.lt E.By (ht.rows r x hx).own b hb
  -- an old row and one that is no old row share nothing
  have old_new : ∀ {r x r' x' b}, r ∉ R → tb.row r = some x → tb'.row r' = some x' → r ≠ r' → b ∈ W'.rb r → b ∉ W'.rb r' := by
    intro r x r' x' b hR hx hx' hne hb hb'
    have e := (h.same r x hR hx).2.1
    rw [e] at hb
    rcases h.newRow r' x' hx' with ⟨hR', hx2⟩ | hn
    · rw [(h.same r' x' hR' hx2).2.1] at hb'
      exact ht.rr r x r' x' hx hx2 hne b hb hb'
    · rcases hn b hb' with hn | ⟨q, y, hq, hy, hbq⟩
      · have := lt_row hx hb; omega
      · exact ht.rr r x q y hx hy (fun e => hR (e ▸ hq)) b hb hbq
  have box_row : ∀ {o y r x}, tb.box o = some y → tb'.row r = some x → (W.bx o).block ∉ W'.rb r := by
    intro o y r x hy hx hb
    rcases h.newRow r x hx with ⟨hR, hx2⟩ | hn
    · rw [(h.same r x hR hx2).2.1] at hb
      exact ht.br o y r x hy hx2 hb
    · rcases hn _ hb with hn | ⟨q, z, hq, hz, hbq⟩
      · have := lt_box hy; omega
      · exact ht.br o y q z hy hz hbq
  refine ⟨fun o x hx => ?_, fun r x hx => ?_, fun r x r' x' hx hx' hne b hb hb' => ?_, fun o x r x' hx hx' hb => ?_, fun o x o' x' hx hx' hne he => ?_, hfr⟩
  · rcases hbx o x hx with ⟨y, hy, rfl, hh⟩ | hb
    · have k := ht.boxes o y hy
      rw [(h.box o y hy).2]
      refine ⟨k.spot, ?_, ?_⟩
      · obtain ⟨cs, e, h1, h2⟩ := k.cells
        refine ⟨cs, e, hh.trans h1, ?_⟩
        rw [mapL_length]
        exact LfsRep.map (fun l v => h.lf' hf) h2
      · intro j hj hl
        rw [mapL_length] at hj
        exact k.mine j hj hl
    · exact hb
  · rcases hrw r x hx with ⟨hR, hx2⟩ | hr
    · have k := ht.rows r x hx2
      obtain ⟨_, e1, e2⟩ := h.same r x hR hx2
      refine ⟨k.n, ?_, by rw [e1]; exact k.nodup, by rw [e1]; exact k.mine⟩
      rw [e1, e2]
      refine OwT.frame E.By k.own fun b hb => h.heap b (lt_row hx2 hb) (fun q y hq hy hbq => ?_) fun o y ho e => ?_
      · exact ht.rr r x q y hx2 hy (fun e => hR (e ▸ hq)) b hb hbq
      · exact ht.br o y r x ho hx2 (e ▸ hb)
    · exact hr
  · rcases hrr r x r' x' hx hx' hne with ⟨hR, hx2⟩ | ⟨hR, hx2⟩ | hn
    · exact old_new hR hx2 hx' hne hb hb'
    · exact old_new hR hx2 hx (Ne.symm hne) hb' hb
    · exact hn b hb hb'
  · rcases hbr o x r x' hx hx' with ⟨y, hy⟩ | ⟨hR, hx2⟩ | hn
    · rw [(h.box o y hy).2] at hb
      exact box_row hy hx' hb
    · rw [(h.same r x' hR hx2).2.1] at hb
      rcases h.newBox o x hx with ⟨y, hy⟩ | hn | ⟨q, z, hq, hz, hbq⟩
      · rw [(h.box o y hy).2] at hb
        exact ht.br o y r x' hy hx2 hb
      · have := lt_row hx2 hb; omega
      · exact ht.rr r x' q z hx2 hz (fun e => hR (e ▸ hq)) _ hb hbq
    · exact hn hb
  · have two : ∀ {o x o' x'}, tb.box o = some x → tb'.box o' = some x' → o ≠ o' → (W'.bx o).block ≠ (W'.bx o').block := by
      intro o x o' x' hx hx' hne he
      rw [(h.box o x hx).2] at he
      rcases h.newBox o' x' hx' with ⟨y, hy⟩ | hn | ⟨q, z, hq, hz, hbq⟩
      · rw [(h.box o' y hy).2] at he
        exact ht.bb o x o' y hx hy hne he
      · have := lt_box hx; omega
      · exact ht.br o x q z hx hz (he ▸ hbq)
    rcases hbb o x o' x' hx hx' hne with ⟨y, hy⟩ | ⟨y, hy⟩ | hn
    · exact two hy hx' hne he
    · exact two hy hx (Ne.symm hne) he.symm
    · exact hn he
end
end Go.Ri
/- New variables, and stores into variables. -/
namespace Go.Ri
section
variable {E : Env} {P : Program} {T : List TE}

mutual
theorem mapLf_id : ∀ v : SV, v.mapLf id id = v
  | .one _ => rfl
  | .agg ls o => by simp [SV.mapLf, mapL_id]
  | .tup vs => by simp [SV.mapLf, mapLfs_id vs]
  | .und => rfl
theorem mapLfs_id : ∀ v : List SV, SV.mapLfs id id v = v
  | [] => rfl
  | a :: r => by simp [SV.mapLfs, mapLf_id a, mapLfs_id r]
end
theorem mapSl_id : ∀ l, mapSl id id l = l
  | [] => rfl
  | none :: r => by simp [mapSl, mapSl_id r]
  | some v :: r => by simp [mapSl, mapLf_id v, mapSl_id r]

theorem gone_nil (l : Lf) : l.gone [] [] = false := by cases l <;> rfl
theorem Sim.lt_box {tb : Tb} {w : World} {W : Wit} (h : TbRep E tb w W) {o : Nat} {x : Bx} (hx : tb.box o = some x) : (W.bx o).block < w.heap.size := by
  obtain ⟨cs, e, hh, _⟩ := (h.boxes o x hx).cells
  exact (Array.getElem?_eq_some_iff.1 hh).1
theorem Sim.lt_row {tb : Tb} {w : World} {W : Wit} (h : TbRep E tb w W) {r : Nat} {x : Row} (hx : tb.row r = some x) {b : Nat} (hb : b ∈ W.rb r) : b < w.heap.size := OwT.lt E.By (h.rows r x hx).own b hb

/-- a new variable with known cells -/
theorem Sim.newBox {s : St} {tm : Array Value} {w : World} {W : Wit} (hs : Sim E s tm w W) {ls : List Lf} {cs : Array Value} (hl : LfsRep E s.tb W w ls cs.toList) (t : TypeId) :
    Sim E (s.newBox ls) tm (Wd.alloc w (.cells cs t)) (W.addBox s.bx.length ⟨w.heap.size, 0, none⟩) := by
  have hbox : ∀ o x, (Tb.box ⟨app s.bx [some ⟨ls, []⟩], s.rw⟩ o) = some x → (o < s.bx.length ∧ s.tb.box o = some x) ∨ (o = s.bx.length ∧ x = ⟨ls, []⟩) := by
    intro o x hx
    simp only [Tb.box, lget_app_new] at hx
    split at hx
    · rename_i h; exact .inl ⟨h, hx⟩
    · split at hx
      · rename_i h; cases hx; exact .inr ⟨h, rfl⟩
      · cases hx
  have hold : ∀ o x, s.tb.box o = some x → o < s.bx.length := fun o x hx => lget_lt (l := s.bx) hx
  have h : Touch [] [] s.tb W w ⟨app s.bx [some ⟨ls, []⟩], s.rw⟩ (W.addBox s.bx.length ⟨w.heap.size, 0, none⟩) (Wd.alloc w (.cells cs t)) := by
    refine ⟨by simp [Wd.alloc], fun b hb _ _ => alloc_old w _ hb, fun o x hx => ?_, fun o x hx => ?_, fun r _ => ?_, fun r x _ hx => ⟨hx, rfl, rfl⟩, fun r x hx => .inl ⟨by simp, hx⟩⟩
    · have hlt := hold o x hx
      refine ⟨⟨x, ?_⟩, ?_⟩
      · simp only [Tb.box, lget_app_new]; rw [if_pos hlt]; exact hx
      · simp only [Wit.addBox]; rw [if_neg (by omega)]
    · rcases hbox o x hx with ⟨_, h⟩ | ⟨rfl, _⟩
      · exact .inl ⟨x, h⟩
      · right; left; simp [Wit.addBox]
    · exact fun x hx => ⟨x, hx, rfl, rfl, rfl, fun b B e => ⟨B, e⟩⟩
  have key := hs.touch (by simp) h safe_id (safeO_id [] rfl) (tb_touch hs.tb h safe_id (fun o x hx => ?_) (fun r x hx => .inl ⟨by simp, hx⟩) (fun r x r' x' hx _ _ => .inl ⟨by simp, hx⟩) (fun o x r x' _ hx' => .inr (.inl ⟨by simp, hx'⟩)) (fun o x o' x' hx hx' hne => ?_) (frame_alloc hs.tb.frame _))
  · rw [mapSl_id] at key; exact key
  · rcases hbox o x hx with ⟨_, hy⟩ | ⟨rfl, rfl⟩
    · refine .inl ⟨x, hy, by rw [mapL_id], alloc_old w _ (Sim.lt_box hs.tb hy)⟩
    · right
      have e : (W.addBox s.bx.length ⟨w.heap.size, 0, none⟩).bx s.bx.length = ⟨w.heap.size, 0, none⟩ := by simp [Wit.addBox]
      rw [e]
      refine ⟨rfl, ⟨cs, t, alloc_new w _, ?_⟩, fun j hj _ => .inl hs.tb.frame.size⟩
      have hl2 := LfsRep.map (f := id) (fun l v => h.lf' safe_id) hl
      rw [mapL_id] at hl2
      have hlen := LfsRep_len hl
      rw [List.drop_zero, List.take_of_length_le (by simp only [Array.length_toList] at *; omega)]
      exact hl2
  · rcases hbox o x hx with ⟨_, hy⟩ | ⟨rfl, rfl⟩
    · exact .inl ⟨x, hy⟩
    · rcases hbox o' x' hx' with ⟨_, hy⟩ | ⟨rfl, rfl⟩
      · exact .inr (.inl ⟨x', hy⟩)
      · exact absurd rfl hne

theorem run_newVar {t : TypeId} {v : Value} {w : World} : (newVar t v).run P w = .ok ⟨w.heap.size, 0, none⟩ (Wd.alloc w (.cells v.cells t)) := by
  simp [newVar, newRow, Result.andThen, Wd.alloc]
/-- The way of an operation that gives a value and turns the world. -/
theorem OpOk.step {o : Oper} {s s' : St} {sv : SV} (h : ∀ (a : Act) (w : World) (W : Wit), Sim E s a.tmps w W → ∃ v w' W', (execOp a.eval o).run P w = .ok (.value v) w' ∧ Sim E s' a.tmps w' W' ∧ SVRep E s'.tb W' w' sv v) : OpOk E P o s (s'.put o.dst sv) := by
  intro a w W next Q hs hn
  obtain ⟨v, w', W', hr, hs', hv⟩ := h a w W hs
  unfold Oper.wp
  rw [hr, Oper.upon_value]
  exact hn _ _ W' (Act.put_defers ..) (by rw [Act.put_tmps]; exact hs'.put o.dst hv)
theorem newBox_ptr {s : St} {W : Wit} {w : World} {ls : List Lf} {cs : Array Value} {t : TypeId} : SVRep E (s.newBox ls).tb (W.addBox s.bx.length ⟨w.heap.size, 0, none⟩) (Wd.alloc w (.cells cs t)) (.one (.pbox (llen s.bx) 0)) (.pointer (some ⟨w.heap.size, 0, none⟩)) := by
  refine ⟨⟨⟨⟨ls, []⟩, ?_⟩, ?_⟩, rfl⟩
  · rw [llen_eq]
    simp only [St.newBox, St.tb, Tb.box, lget_app_new]
    simp
  · rw [llen_eq, add_zero]; simp [Wit.addBox]

theorem zero_rep {tb : Tb} {W : Wit} {w : World} : ∀ (y : Ty), LfsRep E tb W w y.zero y.zeroC
  | .int k => ⟨⟨⟨rfl, by have := inK_zero k; exact this⟩, rfl⟩, trivial⟩
  | .bool => ⟨⟨rfl, rfl⟩, trivial⟩
  | .str => ⟨⟨⟨rfl, by decide⟩, rfl⟩, trivial⟩
  | .slice _ _ => ⟨⟨rfl, rfl⟩, trivial⟩
  | .unit => trivial
  | .pair a b => by
    simp only [Ty.zero, Ty.zeroC, app_eq]
    exact LfsRep_append (zero_rep a) (zero_rep b)
theorem mkV_cells {agg : Bool} {vs : List Value} (h : agg = false → vs.length = 1) (h1 : ∀ v ∈ vs, v.oneCell' = true) : (mkV agg vs).cells.toList = vs := by
  unfold mkV
  cases agg with
  | true => simp [Value.cells]
  | false =>
    obtain ⟨v, rfl⟩ := single (h rfl)
    simp [cells_one (h1 v (by simp))]
theorem zeroC_one : ∀ (y : Ty) (v : Value), v ∈ y.zeroC → v.oneCell' = true
  | .int k, v, h => by simp [Ty.zeroC] at h; subst h; rfl
  | .bool, v, h => by simp [Ty.zeroC] at h; subst h; rfl
  | .str, v, h => by simp [Ty.zeroC] at h; subst h; rfl
  | .slice _ _, v, h => by simp [Ty.zeroC] at h; subst h; rfl
  | .unit, v, h => by simp [Ty.zeroC] at h
  | .pair a b, v, h => by
    simp only [Ty.zeroC, List.mem_append] at h
    rcases h with h | h
    · exact zeroC_one a v h
    · exact zeroC_one b v h
theorem isPair_sz {y : Ty} (h : y.isPair = false) (h0 : y.sz ≠ 0) : y.sz = 1 := by
  cases y <;> simp_all [Ty.isPair, Ty.sz]

theorem op_alloc (hT : TOk P T) {s : St} {o : Oper} {t : TypeId} (e : o.op = .alloc t) (hd : (te T t).d ≠ .no) : OpOk E P o s ((s.newBox (te T t).d.ty.zero).put o.dst (.one (.pbox (llen s.bx) 0))) := by
  have hz := sz_pos hT t hd
  have hc := cells_ok hT hz
  have hcells : (mkV (te T t).d.ty.isPair (te T t).d.ty.zeroC).cells.toList = (te T t).d.ty.zeroC :=
    mkV_cells (fun h => by rw [zeroC_len]; exact isPair_sz h hz) (zeroC_one _)
  refine OpOk.step fun a w W hs => ⟨_, _, _, ?_, hs.newBox (cs := (mkV (te T t).d.ty.isPair (te T t).d.ty.zeroC).cells) (by rw [hcells]; exact zero_rep _) t, newBox_ptr⟩
  simp only [execOp, e]
  refine run_next ?_
  unfold Instr.alloc
  rw [Sem.run_bind, run_zero hc]
  simp [run_newVar, Result.andThen]

theorem ls_rep {tb : Tb} {W : Wit} {w : World} {sv : SV} {v : Value} {ls : List Lf} (h : sv.ls? = some ls) (hr : SVRep E tb W w sv v) : LfsRep E tb W w ls v.cells.toList := by
  cases sv with
  | one l =>
    simp only [SV.ls?, Option.some.injEq] at h
    subst h
    rw [cells_one hr.2]
    exact ⟨hr, trivial⟩
  | agg l o =>
    simp only [SV.ls?, Option.some.injEq] at h
    subst h
    obtain ⟨cs, rfl, hl, _⟩ := hr
    exact hl
  | tup _ => cases h
  | und => cases h
theorem op_box {s : St} {o : Oper} {t : TypeId} {x : Operand} (e : o.op = .box t x) (hx : okOperand x = true) {y : Ty} {sv : SV} (h1 : ev s y x = some sv) {ls : List Lf} (h2 : sv.ls? = some ls) : OpOk E P o s ((s.newBox ls).put o.dst (.one (.pbox (llen s.bx) 0))) := by
  refine OpOk.step fun a w W hs => ⟨_, _, _, ?_, hs.newBox (ls_rep h2 (ev_rep h1 hx hs)) t, newBox_ptr⟩
  simp only [execOp, e]
  refine run_next ?_
  simp [Instr.box, run_newVar, Result.andThen]

end
end Go.Ri
/- Stores. -/
namespace Go.Ri
section
variable {E : Env} {P : Program} {T : List TE}

/-- cells from o on, written -/
def wrC (cs : Array Value) : Nat → List Value → Array Value
  | _, [] => cs
  | o, v :: vs => wrC (cs.setIfInBounds o v) (o + 1) vs
theorem wrC_size : ∀ (vs : List Value) (cs : Array Value) (o : Nat), (wrC cs o vs).size = cs.size
  | [], _, _ => rfl
  | v :: vs, cs, o => by simp [wrC, wrC_size vs]
theorem wrC_get : ∀ (vs : List Value) (cs : Array Value) (o i : Nat), o + vs.length ≤ cs.size → (wrC cs o vs)[i]? = if o ≤ i ∧ i < o + vs.length then vs[i - o]? else cs[i]?
  | [], cs, o, i, _ => by simp only [wrC, List.length_nil]; rw [if_neg (by omega)]
  | v :: vs, cs, o, i, h => by
    simp only [List.length_cons] at h
    simp only [wrC]
    rw [wrC_get vs _ _ _ (by simp; omega)]
    simp only [List.length_cons, Array.getElem?_setIfInBounds]
    by_cases h1 : o + 1 ≤ i ∧ i < o + 1 + vs.length
    · rw [if_pos h1, if_pos (by omega), show i - o = (i - (o + 1)) + 1 by omega]; rfl
    · rw [if_neg h1]
      by_cases h2 : o = i
      · subst h2; rw [if_pos rfl, if_pos (by omega), if_pos (by omega)]; simp
      · rw [if_neg h2, if_neg (by omega)]
theorem wr_cut {cs : Array Value} {o n j m : Nat} {vs : List Value} (h : o + n ≤ cs.size) (hj : j + vs.length ≤ n) (hm : m = vs.length) :
    ((wrC cs (o + j) vs).toList.drop o).take n = (((cs.toList.drop o).take n).take j) ++ (vs ++ (((cs.toList.drop o).take n).drop (j + m))) := by
  subst hm
  apply List.ext_getElem?
  intro i
  have hg := wrC_get vs cs (o + j) (o + i) (by omega)
  rw [← Array.getElem?_toList] at hg
  simp only [List.getElem?_take, List.getElem?_drop, List.getElem?_append, List.length_take, List.length_drop, Array.length_toList]
  by_cases h1 : i < n
  · rw [if_pos h1, hg]
    by_cases h2 : i < j
    · rw [if_neg (by omega), if_pos (by omega), if_pos h2, if_pos h1, Array.getElem?_toList]
    · rw [if_neg (c := i < min j (min n (cs.size - o))) (by omega)]
      by_cases h3 : i < j + vs.length
      · rw [if_pos (by omega), if_pos (by omega)]
        congr 1; omega
      · rw [if_neg (by omega), if_neg (by omega), if_pos (by omega), Array.getElem?_toList]
        congr 1; omega
  · rw [if_neg h1, if_neg (by omega), if_neg (by omega), if_neg (by omega)]
structure SameBut (w w' : World) (b : Nat) : Prop where
  os : w'.os = w.os
  tape : w'.tape = w.tape
  output : w'.output = w.output
  size : w'.heap.size = w.heap.size
  heap : ∀ c, c ≠ b → w'.heap[c]? = w.heap[c]?
theorem SameBut.refl (w : World) (b : Nat) : SameBut w w b := ⟨rfl, rfl, rfl, rfl, fun _ _ => rfl⟩
theorem SameBut.trans {a b c : World} {n : Nat} (h : SameBut a b n) (k : SameBut b c n) : SameBut a c n :=
  ⟨k.os.trans h.os, k.tape.trans h.tape, k.output.trans h.output, k.size.trans h.size, fun m hm => (k.heap m hm).trans (h.heap m hm)⟩
theorem setCell_same (w : World) (a : Addr) (v : Value) : SameBut w (w.setCell a v) a.block :=
  ⟨rfl, rfl, rfl, by simp [World.setCell], fun c hc => by simp only [World.setCell, Array.getElem?_modify]; rw [if_neg (by omega)]⟩
theorem setCell_at {w : World} {b o : Nat} {cs : Array Value} {e : TypeId} {fr : Nat × Nat} (h : w.heap[b]? = some (.cells cs e fr)) (v : Value) : (w.setCell ⟨b, o, none⟩ v).heap[b]? = some (.cells (cs.setIfInBounds o v) e fr) := by
  simp [World.setCell, Array.getElem?_modify, h]
theorem run_storeCells {b off : Nat} {e : TypeId} : ∀ (vs : List Value) (i : Nat) (w : World) (cs : Array Value), w.heap[b]? = some (.cells cs e (0, 0)) → off + i + vs.length ≤ cs.size → (∀ v ∈ vs, v.oneCell' = true) →
    ∃ w', (storeCells ⟨b, off, none⟩ vs i).run P w = .ok () w' ∧ w'.heap[b]? = some (.cells (wrC cs (off + i) vs) e (0, 0)) ∧ SameBut w w' b
  | [], i, w, cs, h, _, _ => ⟨w, rfl, h, SameBut.refl _ _⟩
  | v :: vs, i, w, cs, h, hl, h1 => by
    simp only [List.length_cons] at hl
    have ha : (⟨b, off, none⟩ : Addr).add i = ⟨b, off + i, none⟩ := by unfold Addr.add; split <;> simp_all
    have hc : w.cell? ⟨b, off + i, none⟩ = some cs[off + i] := by rw [cells_of_heap h, Array.getElem?_eq_getElem (show off + i < cs.size by omega)]
    have hf : w.frozen? ⟨b, off + i, none⟩ = false := by simp [World.frozen?, h]
    obtain ⟨w', r1, r2, r3⟩ := run_storeCells (b := b) (off := off) (e := e) vs (i + 1) (w.setCell ⟨b, off + i, none⟩ v) (cs.setIfInBounds (off + i) v) (setCell_at h v) (by simp; omega) fun u hu => h1 u (List.mem_cons_of_mem _ hu)
    refine ⟨w', ?_, r2, (setCell_same w _ v).trans r3⟩
    simp only [storeCells]
    rw [Sem.run_bind, ha, run_store P w _ v .plain (h1 v (List.mem_cons_self ..)), hc]
    simp only [hf, Bool.false_eq_true, if_false, Result.andThen]
    exact r1
theorem run_storeVar {w : World} {t : TypeId} {y : Ty} {b off : Nat} {v : Value} {cs : Array Value} {e : TypeId} (hc : CellsOk P t y) (hv : v.cells.size = y.sz) (h : w.heap[b]? = some (.cells cs e (0, 0))) (hl : off + y.sz ≤ cs.size) (h1 : ∀ u ∈ v.cells.toList, u.oneCell' = true) :
    ∃ w', (storeVar t ⟨b, off, none⟩ v).run P w = .ok () w' ∧ w'.heap[b]? = some (.cells (wrC cs off v.cells.toList) e (0, 0)) ∧ SameBut w w' b := by
  obtain ⟨w', r1, r2, r3⟩ := run_storeCells (P := P) (b := b) (off := off) v.cells.toList 0 w cs h (by simp only [Array.length_toList]; omega) h1
  refine ⟨w', ?_, by simpa using r2, r3⟩
  unfold storeVar
  rw [Sem.run_bind, run_sizeOf hc]
  simp only [Result.andThen, hv]
  simpa using r1

/-- The way of a store. -/
theorem OpOk.store {o : Oper} (hd : o.dst = none) {s s' : St} (h : ∀ (a : Act) (w : World) (W : Wit), Sim E s a.tmps w W → ∃ w' W', (execOp a.eval o).run P w = .ok .skip w' ∧ Sim E s' a.tmps w' W') : OpOk E P o s s' := by
  intro a w W next Q hs hn
  obtain ⟨w', W', hr, hs'⟩ := h a w W hs
  unfold Oper.wp
  rw [hr, Oper.upon_skip, hd]
  exact hn _ _ W' rfl hs'
theorem exec_store (o : Oper) {t : TypeId} {p x : Operand} (e : o.op = .store t p x) (ρ : Operand → Value) {ad : Addr} (hp : ρ p = .pointer (some ad)) {w w' : World} (h : (storeVar t ad (ρ x)).run P w = .ok () w') : (execOp ρ o).run P w = .ok .skip w' := by
  simp only [execOp, e, Instr.storeAt, hp, Instr.sureAddr]
  simp [h, Result.andThen]

theorem frame_same {w w' : World} {b : Nat} {M : Nat → Nat → Prop} {w0 : World} {cs cs' : Array Value} {e : TypeId} {fr : Nat × Nat} (hf : Frame' M w0 w) (h : SameBut w w' b) (h1 : w.heap[b]? = some (.cells cs e fr)) (h2 : w'.heap[b]? = some (.cells cs' e fr)) (hs : cs'.size = cs.size)
    (hm : ∀ j, (w0.heap.size ≤ b ∨ M b j) ∨ cs'[j]? = cs[j]?) : Frame' M w0 w' := by
  refine hf.trans (N := fun c j => c = b ∧ cs'[j]? ≠ cs[j]?) ⟨h.os, h.tape, h.output, by rw [h.size]; exact Nat.le_refl _, fun c hc => ?_⟩ fun n j hn hj => ?_
  · by_cases e' : c = b
    · subst e'
      intro o ho
      rw [h1] at ho
      cases ho
      exact ⟨cs', h2, hs, fun j hj => Classical.byContradiction fun hne => hj ⟨rfl, hne⟩⟩
    · exact KeepAt.of_eq _ (h.heap c e')
  · obtain ⟨rfl, hne⟩ := hj
    rcases hm j with (hm | hm) | hm
    · omega
    · exact hm
    · exact absurd hm hne

theorem lget_lset' {α : Type} (l : List (Option α)) (i j : Nat) (v : Option α) (h : i < l.length) : lget (lset l i v) j = if i = j then v else lget l j := by
  rw [lget_lset]
  by_cases e : i = j
  · rw [if_pos ⟨e, h⟩, if_pos e]
  · rw [if_neg (fun h => e h.1), if_neg e]
theorem free_at : ∀ {l : List Bool} {i : Nat}, free l = true → l.getD i false = false
  | [], _, _ => by simp
  | a :: r, 0, h => by simp only [free, Bool.and_eq_true, Bool.not_eq_true'] at h; simpa using h.1
  | a :: r, i + 1, h => by
    simp only [free, Bool.and_eq_true] at h
    simpa using free_at (l := r) (i := i) h.2

theorem op_store_box (hT : TOk P T) {s : St} {o : Oper} (hdst : o.dst = none) {t : TypeId} {p x : Operand} (e : o.op = .store t p x) (hp : okOperand p = true) (hx : okOperand x = true) (hd : (te T t).d ≠ .no) {y y' : Ty} {b j : Nat} {bx : Bx} {sv : SV} {ls : List Lf}
    (h1 : evl s y p = some (.pbox b j)) (h2 : ev s y' x = some sv) (h3 : sv.ls? = some ls) (h4 : ls.length = (te T t).d.ty.sz) (hb : s.box b = some bx) (hf : free (cutN j (llen ls) bx.lk) = true) (hj : j + ls.length ≤ bx.ls.length) :
    OpOk E P o s { s with bx := lset s.bx b (some ⟨pasteN j ls bx.ls, bx.lk⟩) } := by
  refine OpOk.store hdst fun a w W hs => ?_
  obtain ⟨⟨_, hv⟩, _⟩ := evl_rep h1 hp hs
  have hl := ls_rep h3 (ev_rep h2 hx hs)
  have hbr := hs.tb.boxes b bx hb
  obtain ⟨cs, ec, hh, hlr⟩ := hbr.cells
  have hsz := LfsRep_len hlr
  simp only [List.length_take, List.length_drop, Array.length_toList] at hsz
  have hspot := hbr.spot
  have hpos := sz_pos hT t hd
  have hoff : (W.bx b).off + bx.ls.length ≤ cs.size := by omega
  obtain ⟨had, hbo⟩ : (W.bx b).add j = ⟨(W.bx b).block, (W.bx b).off + j, none⟩ ∧ True := by
    refine ⟨?_, trivial⟩
    unfold Addr.add
    split
    · rename_i h0; subst h0; generalize W.bx b = ad at hspot; cases ad; simp at hspot; simp [hspot]
    · rfl
  have hvl : (a.eval x).cells.size = (te T t).d.ty.sz := by rw [← h4, LfsRep_len hl, Array.length_toList]
  obtain ⟨w', r1, r2, r3⟩ := run_storeVar (P := P) (cells_ok hT (sz_pos hT t hd)) hvl hh (off := (W.bx b).off + j) (by rw [← h4]; omega) (LfsRep_one hl)
  have hblt : b < s.bx.length := lget_lt (l := s.bx) hb
  have hbox : ∀ o' x', (Tb.box ⟨lset s.bx b (some ⟨pasteN j ls bx.ls, bx.lk⟩), s.rw⟩ o') = some x' → (o' = b ∧ x' = ⟨pasteN j ls bx.ls, bx.lk⟩) ∨ (o' ≠ b ∧ s.tb.box o' = some x') := by
    intro o' x' hx'
    simp only [Tb.box, lget_lset' _ _ _ _ hblt] at hx'
    split at hx'
    · rename_i e; cases hx'; exact .inl ⟨e.symm, rfl⟩
    · rename_i e; exact .inr ⟨fun h => e h.symm, hx'⟩
  have hvs := mapL_id ls
  have htouch : Touch [] [] s.tb W w ⟨lset s.bx b (some ⟨pasteN j ls bx.ls, bx.lk⟩), s.rw⟩ W w' := by
    refine ⟨by rw [r3.size]; exact Nat.le_refl _, fun c _ _ hc => r3.heap c (hc b bx hb), fun o' x' hx' => ⟨?_, rfl⟩, fun o' x' hx' => ?_, fun r _ x hx => ⟨x, hx, rfl, rfl, rfl, fun b B e => ⟨B, e⟩⟩, fun r x _ hx => ⟨hx, rfl, rfl⟩, fun r x hx => .inl ⟨by simp, hx⟩⟩
    · simp only [Tb.box, lget_lset' _ _ _ _ hblt]
      split
      · exact ⟨_, rfl⟩
      · exact ⟨x', hx'⟩
    · rcases hbox o' x' hx' with ⟨rfl, _⟩ | ⟨_, h⟩
      · exact .inl ⟨bx, hb⟩
      · exact .inl ⟨x', h⟩
  refine ⟨w', W, exec_store o e _ (by rw [hv, had]) r1, ?_⟩
  have key := hs.touch (by simp) htouch safe_id (safeO_id [] rfl) (tb_touch hs.tb htouch safe_id (fun o' x' hx' => ?_) (fun r x hx => .inl ⟨by simp, hx⟩) (fun r x r' x' hx _ _ => .inl ⟨by simp, hx⟩) (fun o x r x' hx _ => ?_) (fun o' x' o2 x2 hx' _ _ => ?_) ?_)
  · rw [mapSl_id] at key; exact key
  · rcases hbox o' x' hx' with ⟨rfl, rfl⟩ | ⟨hne, hy⟩
    · right
      have hplen : (pasteN j ls bx.ls).length = bx.ls.length := by
        unfold pasteN; rw [app_eq, app_eq, takeN_eq, dropN_eq, llen_eq]; simp; omega
      refine ⟨hspot, ⟨_, ec, r2, ?_⟩, fun i hi hl' => hbr.mine i (by rw [hplen] at hi; exact hi) hl'⟩
      rw [hplen]
      have l1 := LfsRep.map (f := id) (fun l v => htouch.lf' safe_id) hlr
      have l2 := LfsRep.map (f := id) (fun l v => htouch.lf' safe_id) hl
      rw [mapL_id] at l1 l2
      have ep : pasteN j ls bx.ls = bx.ls.take j ++ (ls ++ bx.ls.drop (j + ls.length)) := by
        unfold pasteN; rw [app_eq, app_eq, takeN_eq, dropN_eq, llen_eq]
      have e1 : ((wrC cs ((W.bx o').off + j) (a.eval x).cells.toList).toList.drop (W.bx o').off).take bx.ls.length =
          (((cs.toList.drop (W.bx o').off).take bx.ls.length).take j) ++ ((a.eval x).cells.toList ++ (((cs.toList.drop (W.bx o').off).take bx.ls.length).drop (j + ls.length))) := by
        refine wr_cut (by omega) ?_ ?_
        · simp only [Array.length_toList]; omega
        · rw [LfsRep_len hl]
      rw [e1, show LfsRep E (Tb.mk _ _) W w' (pasteN j ls bx.ls) _ = LfsRep E _ W w' (bx.ls.take j ++ (ls ++ bx.ls.drop (j + ls.length))) _ from congrArg (fun q => LfsRep E _ W w' q _) ep]
      exact LfsRep_append (LfsRep_take _ l1) (LfsRep_append l2 (LfsRep_drop _ l1))
    · left
      exact ⟨x', hy, by rw [mapL_id], r3.heap _ (hs.tb.bb o' x' b bx hy hb hne)⟩
  · rcases hbox o x hx with ⟨rfl, _⟩ | ⟨_, h⟩
    · exact .inl ⟨bx, hb⟩
    · exact .inl ⟨x, h⟩
  · rcases hbox o' x' hx' with ⟨rfl, _⟩ | ⟨_, h⟩
    · exact .inl ⟨bx, hb⟩
    · exact .inl ⟨x', h⟩
  · refine frame_same hs.tb.frame r3 hh r2 (wrC_size ..) fun i => ?_
    rw [wrC_get _ _ _ _ (by simp only [Array.length_toList]; omega)]
    split
    · rename_i hi
      left
      simp only [Array.length_toList] at hi
      have hm := hbr.mine (i - (W.bx b).off) (by omega) ?_
      · rw [show (W.bx b).off + (i - (W.bx b).off) = i by omega] at hm
        exact hm
      · have := free_at (i := i - (W.bx b).off - j) hf
        unfold cutN at this
        rw [takeN_eq, dropN_eq, llen_eq] at this
        rw [getD_sub (by omega)] at this
        rwa [show j + (i - (W.bx b).off - j) = i - (W.bx b).off by omega] at this
    · exact .inr rfl

end
end Go.Ri
/- Rows that go into a row. -/
namespace Go.Ri
section
variable {E : Env} {P : Program} {T : List TE}

theorem Sim.move {s : St} {tm : Array Value} {w : World} {W : Wit} (hs : Sim E s tm w W) {tb' : Tb} {W' : Wit} {w' : World} {f : Lf → Lf} {g : Option (Nat × Nat) → Option (Nat × Nat)}
    (hl : ∀ l v, LfRep E s.tb W w l v → LfRep E tb' W' w' (f l) v) (ho : ∀ cs o, OrgRep s.tb W w cs o → OrgRep tb' W' w' cs (g o)) (ht : TbRep E tb' w' W') : Sim E ⟨mapSl f g s.sl, tb'.bx, tb'.rw⟩ tm w' W' := by
  refine ⟨by rw [mapSl_length]; exact hs.len, fun i sv hsv => ?_, ht⟩
  simp only [St.slot, lget_mapSl] at hsv
  cases e : lget s.sl i with
  | none => rw [e] at hsv; cases hsv
  | some sv0 =>
    rw [e] at hsv
    simp only [Option.map_some, Option.some.injEq] at hsv
    subst hsv
    obtain ⟨v, hv, hr⟩ := hs.slots i sv0 e
    exact ⟨v, hv, SVRep.map hl ho hr⟩

/-- rows own go into row n: leaves -/
def intoF (rw : List (Option Row)) (n : Nat) : List Nat → Lf → Lf
  | [], l => l
  | q :: own, l => intoF rw n own (match lget rw q with | some w => Lf.into q n w l | none => l)
def offG : List Nat → Option (Nat × Nat) → Option (Nat × Nat)
  | [], o => o
  | q :: own, o => offG own (offOrg q o)
def noneAt (rw : List (Option Row)) : List Nat → List (Option Row)
  | [] => rw
  | q :: own => noneAt (lset rw q none) own
theorem intoF_set {n : Nat} {x : Option Row} : ∀ {own : List Nat} {rw : List (Option Row)} {q : Nat} (l : Lf), q ∉ own → intoF (lset rw q x) n own l = intoF rw n own l
  | [], _, _, _, _ => rfl
  | p :: own, rw, q, l, h => by
    simp only [List.mem_cons, not_or] at h
    simp only [intoF]
    rw [lget_lset, if_neg (fun k => h.1 k.1), intoF_set _ h.2]
theorem mapL_comp {f g : Lf → Lf} : ∀ ls, mapL f (mapL g ls) = mapL (fun l => f (g l)) ls
  | [] => rfl
  | l :: ls => by simp only [mapL, mapL_comp ls]
mutual
theorem mapLf_comp {f f' : Lf → Lf} {g g' : Option (Nat × Nat) → Option (Nat × Nat)} : ∀ v : SV, (v.mapLf f' g').mapLf f g = v.mapLf (fun l => f (f' l)) (fun o => g (g' o))
  | .one l => rfl
  | .agg ls o => by simp only [SV.mapLf, mapL_comp]
  | .tup vs => by simp only [SV.mapLf, mapLfs_comp vs]
  | .und => rfl
theorem mapLfs_comp {f f' : Lf → Lf} {g g' : Option (Nat × Nat) → Option (Nat × Nat)} : ∀ v : List SV, SV.mapLfs f g (SV.mapLfs f' g' v) = SV.mapLfs (fun l => f (f' l)) (fun o => g (g' o)) v
  | [] => rfl
  | v :: vs => by simp only [SV.mapLfs, mapLf_comp v, mapLfs_comp vs]
end
theorem mapSl_comp {f f' : Lf → Lf} {g g' : Option (Nat × Nat) → Option (Nat × Nat)} : ∀ l, mapSl f g (mapSl f' g' l) = mapSl (fun l => f (f' l)) (fun o => g (g' o)) l
  | [] => rfl
  | none :: r => by simp only [mapSl, mapSl_comp r]
  | some v :: r => by simp only [mapSl, mapSl_comp r, mapLf_comp]
theorem mapBx_comp {f f' : Lf → Lf} : ∀ l, mapBx f (mapBx f' l) = mapBx (fun l => f (f' l)) l
  | [] => rfl
  | none :: r => by simp only [mapBx, mapBx_comp r]
  | some v :: r => by simp only [mapBx, mapBx_comp r, mapL_comp]
theorem mapL_congr {f g : Lf → Lf} (h : ∀ l, f l = g l) (ls : List Lf) : mapL f ls = mapL g ls := by rw [show f = g from funext h]
theorem intoRows_eq {n : Nat} : ∀ {own : List Nat} {s : St}, own.Nodup → (∀ q, q ∈ own → ∃ w, s.row q = some w) →
    s.intoRows n own = ⟨mapSl (intoF s.rw n own) (offG own) s.sl, mapBx (intoF s.rw n own) s.bx, noneAt s.rw own⟩
  | [], s, _, _ => by
    simp only [St.intoRows, noneAt]
    have h1 : mapSl (intoF s.rw n []) (offG []) s.sl = s.sl := mapSl_id s.sl
    have h2 : mapBx (intoF s.rw n []) s.bx = s.bx := by
      have : ∀ l : List (Option Bx), mapBx (intoF s.rw n []) l = l := fun l => by
        induction l with
        | nil => rfl
        | cons a r ih =>
          cases a with
          | none => simp only [mapBx, ih]
          | some v => simp only [mapBx, ih]; rw [show mapL (intoF s.rw n []) v.ls = v.ls from mapL_id v.ls]
      exact this _
    rw [h1, h2]
  | q :: own, s, hn, hr => by
    obtain ⟨w, hw⟩ := hr q (List.mem_cons_self ..)
    have hq := (List.nodup_cons.1 hn).1
    have hown : ∀ p, p ∈ own → ∃ w, (s.intoRow q n).row p = some w := fun p hp => by
      obtain ⟨u, hu⟩ := hr p (List.mem_cons_of_mem _ hp)
      refine ⟨u, ?_⟩
      simp only [St.intoRow, hw, St.mapLf]
      show lget (lset s.rw q none) p = some u
      rw [lget_lset, if_neg (fun k : q = p ∧ _ => hq (k.1 ▸ hp))]; exact hu
    simp only [St.intoRows]
    rw [intoRows_eq (List.nodup_cons.1 hn).2 hown]
    simp only [St.intoRow, hw, St.mapLf, noneAt, mapSl_comp, mapBx_comp]
    have hw' : lget s.rw q = some w := hw
    have e : (fun l => intoF (lset s.rw q none) n own (Lf.into q n w l)) = intoF s.rw n (q :: own) := by
      funext l; simp only [intoF, hw', intoF_set _ hq]
    rw [e]; rfl
theorem lget_noneAt {own : List Nat} : ∀ {rw : List (Option Row)} {r : Nat}, lget (noneAt rw own) r = if r ∈ own then none else lget rw r := by
  induction own with
  | nil => intro rw r; simp [noneAt]
  | cons q own ih =>
    intro rw r
    simp only [noneAt, ih, lget_lset, List.mem_cons]
    by_cases h : r ∈ own
    · simp [h]
    · by_cases e : q = r
      · subst e
        by_cases hl : q < rw.length
        · simp [h, hl]
        · simp only [h, hl, and_false, if_false, true_or, if_true, or_false]
          cases e : lget rw q with
          | none => rfl
          | some x => exact absurd (lget_lt e) hl
      · simp [h, e, Ne.symm e]

/-! ### what intoF does to each leaf -/
def swapsN (n : Nat) : List Nat → List Nat → List Nat
  | [], rs => rs
  | q :: own, rs => swapsN n own (swapN q n rs)
theorem mem_swapN {r n : Nat} : ∀ {rs : List Nat} {p : Nat}, p ∈ rs → (p = r ∧ n ∈ swapN r n rs) ∨ (p ≠ r ∧ p ∈ swapN r n rs)
  | a :: rs, p, h => by
    rcases List.mem_cons.1 h with rfl | h
    · by_cases e : p = r
      · subst e; left; simp [swapN]
      · right; refine ⟨e, ?_⟩; simp only [swapN]; rw [if_neg (fun k => e (Nat.eq_of_beq_eq_true k))]; exact List.mem_cons_self ..
    · rcases mem_swapN (r := r) (n := n) h with ⟨rfl, h⟩ | ⟨h1, h⟩
      · exact .inl ⟨rfl, List.mem_cons_of_mem _ h⟩
      · exact .inr ⟨h1, List.mem_cons_of_mem _ h⟩
theorem mem_swapsN_n {n : Nat} : ∀ {own rs : List Nat}, n ∈ rs → n ∈ swapsN n own rs
  | [], _, h => h
  | q :: own, rs, h => by
    refine mem_swapsN_n (own := own) ?_
    rcases mem_swapN (r := q) (n := n) h with ⟨_, h⟩ | ⟨_, h⟩ <;> exact h
theorem mem_swapsN {n : Nat} : ∀ {own rs : List Nat} {p : Nat}, p ∈ rs → (p ∈ own ∧ n ∈ swapsN n own rs) ∨ (p ∉ own ∧ p ∈ swapsN n own rs)
  | [], _, _, h => .inr ⟨by simp, h⟩
  | q :: own, rs, p, h => by
    rcases mem_swapN (r := q) (n := n) h with ⟨rfl, h⟩ | ⟨h1, h⟩
    · exact .inl ⟨List.mem_cons_self .., mem_swapsN_n (own := own) (rs := swapN p n rs) h⟩
    · rcases mem_swapsN (own := own) h with ⟨h2, h3⟩ | ⟨h2, h3⟩
      · exact .inl ⟨List.mem_cons_of_mem _ h2, h3⟩
      · refine .inr ⟨?_, h3⟩
        simp [h1, h2]
theorem swapN_one (q n : Nat) : swapN q n [n] = [n] := by simp [swapN]
section
variable {rw : List (Option Row)} {n : Nat}
theorem intoF_vw : ∀ {own : List Nat} {rs : List Nat} {e : TypeId} {t : Ty} {xs : List t.den}, (∀ q, q ∈ own → ∃ w, lget rw q = some w) → intoF rw n own (.vw rs e t xs) = .vw (swapsN n own rs) e t xs
  | [], _, _, _, _, _ => rfl
  | q :: own, rs, e, t, xs, h => by
    obtain ⟨w, hw⟩ := h q (List.mem_cons_self ..)
    simp only [intoF, hw, Lf.into, swapsN]
    exact intoF_vw fun p hp => h p (List.mem_cons_of_mem _ hp)
theorem intoF_pvw : ∀ {own : List Nat} {rs : List Nat} {e : TypeId} {t : Ty} {xs : List t.den} {i j : Nat}, (∀ q, q ∈ own → ∃ w, lget rw q = some w) → intoF rw n own (.pvw rs e t xs i j) = .pvw (swapsN n own rs) e t xs i j
  | [], _, _, _, _, _, _, _ => rfl
  | q :: own, rs, e, t, xs, i, j, h => by
    obtain ⟨w, hw⟩ := h q (List.mem_cons_self ..)
    simp only [intoF, hw, Lf.into, swapsN]
    exact intoF_pvw fun p hp => h p (List.mem_cons_of_mem _ hp)
theorem intoF_one : ∀ {own : List Nat} {e : TypeId} {t : Ty} {xs : List t.den}, intoF rw n own (.vw [n] e t xs) = .vw [n] e t xs
  | [], _, _, _ => rfl
  | q :: own, e, t, xs => by
    simp only [intoF]
    cases lget rw q with
    | none => exact intoF_one
    | some w => simp only [Lf.into, swapN_one]; exact intoF_one
theorem intoF_ref : ∀ {own : List Nat} {p : Nat}, (∀ q, q ∈ own → ∃ w, lget rw q = some w) → (p ∉ own ∧ intoF rw n own (.ref p) = .ref p) ∨ ∃ w, p ∈ own ∧ lget rw p = some w ∧ intoF rw n own (.ref p) = .vw [n] w.e w.t w.xs
  | [], p, _ => .inl ⟨by simp, rfl⟩
  | q :: own, p, h => by
    obtain ⟨w, hw⟩ := h q (List.mem_cons_self ..)
    simp only [intoF, hw, Lf.into]
    by_cases e : p = q
    · subst e
      right
      exact ⟨w, List.mem_cons_self .., hw, by rw [if_pos (Nat.beq_refl _)]; exact intoF_one⟩
    · rw [if_neg (fun k => e (Nat.eq_of_beq_eq_true k))]
      rcases intoF_ref (own := own) (p := p) (fun q hq => h q (List.mem_cons_of_mem _ hq)) with ⟨h1, h2⟩ | ⟨w, h1, h2, h3⟩
      · exact .inl ⟨by simp [e, h1], h2⟩
      · exact .inr ⟨w, List.mem_cons_of_mem _ h1, h2, h3⟩
theorem intoF_dead : ∀ {own : List Nat}, intoF rw n own .dead = .dead
  | [] => rfl
  | q :: own => by
    simp only [intoF]
    cases lget rw q with
    | none => exact intoF_dead
    | some w => exact intoF_dead
theorem intoF_pel : ∀ {own : List Nat} {p i j : Nat}, (∀ q, q ∈ own → ∃ w, lget rw q = some w) → (p ∉ own ∧ intoF rw n own (.pel p i j) = .pel p i j) ∨ intoF rw n own (.pel p i j) = .dead
  | [], p, _, _, _ => .inl ⟨by simp, rfl⟩
  | q :: own, p, i, j, h => by
    obtain ⟨w, hw⟩ := h q (List.mem_cons_self ..)
    simp only [intoF, hw, Lf.into]
    by_cases e : p = q
    · subst e
      right
      rw [if_pos (Nat.beq_refl _)]; exact intoF_dead
    · rw [if_neg (fun k => e (Nat.eq_of_beq_eq_true k))]
      rcases intoF_pel (own := own) (p := p) (i := i) (j := j) (fun q hq => h q (List.mem_cons_of_mem _ hq)) with ⟨h1, h2⟩ | h3
      · exact .inl ⟨by simp [e, h1], h2⟩
      · exact .inr h3
theorem intoF_same : ∀ {own : List Nat} {l : Lf}, l.roots = none → l.rowOf = none → intoF rw n own l = l
  | [], _, _, _ => rfl
  | q :: own, l, h1, h2 => by
    simp only [intoF]
    cases lget rw q with
    | none => exact intoF_same h1 h2
    | some w =>
      have : Lf.into q n w l = l := by cases l <;> first | rfl | (simp [Lf.roots] at h1; done) | (simp [Lf.rowOf] at h2; done)
      simp only [this]
      exact intoF_same h1 h2
end
theorem offG_spec : ∀ {own : List Nat} (o : Option (Nat × Nat)), offG own o = none ∨ (offG own o = o ∧ ∀ r i, o = some (r, i) → r ∉ own)
  | [], o => .inr ⟨rfl, fun _ _ _ => by simp⟩
  | q :: own, o => by
    simp only [offG]
    rcases safeO_off q o with e | ⟨e, h⟩
    · rw [e]
      rcases offG_spec (own := own) none with k | ⟨k, _⟩ <;> exact .inl k
    · rw [e]
      rcases offG_spec (own := own) o with k | ⟨k, h'⟩
      · exact .inl k
      · refine .inr ⟨k, fun r i e' => ?_⟩
        have h1 := h r i e'
        have h2 := h' r i e'
        simp only [List.mem_singleton] at h1
        simp [h1, h2]

/-- Rows own go into row n; what row n held (if K) may have been turned. -/
structure Absorb (K : List Nat) (own : List Nat) (n : Nat) (tb : Tb) (W : Wit) (w : World) (tb' : Tb) (W' : Wit) (w' : World) : Prop where
  size : w.heap.size ≤ w'.heap.size
  heap : ∀ b, b < w.heap.size → (∀ r x, r ∈ K → tb.row r = some x → b ∉ W.rb r) → w'.heap[b]? = w.heap[b]?
  kn : ∀ r, r ∈ K → r = n
  nown : n ∉ own
  has : ∀ q, q ∈ own → ∃ x, tb.row q = some x
  box : BoxKept tb W tb' W'
  newBox : ∀ o x, tb'.box o = some x → ∃ y, tb.box o = some y
  row : ∀ r, r ∉ own → RowKept tb W tb' W' r
  rows : ∀ r x, tb'.row r = some x → r ∉ own ∧ (r = n ∨ (tb.row r = some x ∧ W'.rb r = W.rb r ∧ W'.rv r = W.rv r))
  new : ∀ b, b ∈ W'.rb n → w.heap.size ≤ b ∨ ∃ q x, (q ∈ K ∨ q ∈ own) ∧ tb.row q = some x ∧ b ∈ W.rb q

/-- killing what was read out of K -/
def killK : List Nat → Lf → Lf
  | [], l => l
  | r :: K, l => killK K (Lf.kill r l)
theorem killK_dead : ∀ {K : List Nat}, killK K .dead = .dead
  | [] => rfl
  | a :: K => killK_dead (K := K)
theorem killK_spec : ∀ {K : List Nat} {l : Lf}, killK K l = .dead ∨ (killK K l = l ∧ ∀ rs, l.roots = some rs → ∀ r, r ∈ K → r ∉ rs)
  | [], l => .inr ⟨rfl, fun _ _ _ h => by simp at h⟩
  | r :: K, l => by
    simp only [killK]
    have dead : killK K .dead = .dead := by
      exact killK_dead
    rcases safe_kill r l with e | ⟨e, h⟩
    · rw [e]; exact .inl dead
    · rw [e]
      rcases killK_spec (K := K) (l := l) with k | ⟨k, h'⟩
      · exact .inl k
      · refine .inr ⟨k, fun rs hrs q hq => ?_⟩
        rcases List.mem_cons.1 hq with rfl | hq
        · cases l <;> simp only [Lf.roots, Option.some.injEq, reduceCtorEq] at hrs
          · subst hrs; simp only [Lf.gone, Bool.not_eq_false'] at h; exact disj_iff.1 h q (List.mem_singleton.2 rfl)
          · subst hrs; simp only [Lf.gone, Bool.not_eq_false'] at h; exact disj_iff.1 h q (List.mem_singleton.2 rfl)
        · exact h' rs hrs q hq
section
variable {K own : List Nat} {n : Nat} {tb tb' : Tb} {W W' : Wit} {w w' : World}
theorem Absorb.vis (h : Absorb K own n tb W w tb' W' w') {rs : List Nat} {b : Nat} (hK : ∀ r, r ∈ K → r ∉ rs) (k : Vis E tb W w rs b) : Vis E tb' W' w' (swapsN n own rs) b ∧ w'.heap[b]? = w.heap[b]? := by
  refine ⟨⟨Nat.lt_of_lt_of_le k.lt h.size, fun o x hx => ?_, fun r x hx hb => ?_, k.old⟩, h.heap b k.lt fun r x hR hx hb => hK r hR (k.rw r x hx hb)⟩
  · obtain ⟨y, hy⟩ := h.newBox o x hx
    rw [(h.box o y hy).2]; exact k.bx o y hy
  · obtain ⟨h1, rfl | ⟨h2, h3, _⟩⟩ := h.rows r x hx
    · rcases h.new b hb with h4 | ⟨q, y, h4 | h4, h5, h6⟩
      · have := k.lt; omega
      · exact absurd (k.rw q y h5 h6) (hK q h4)
      · rcases mem_swapsN (own := own) (n := r) (k.rw q y h5 h6) with ⟨_, h⟩ | ⟨h, _⟩
        · exact h
        · exact absurd h4 h
    · rcases mem_swapsN (own := own) (n := n) (k.rw r x h2 (h3 ▸ hb)) with ⟨h, _⟩ | ⟨_, h⟩
      · exact absurd h h1
      · exact h
theorem Absorb.own_heap (h : Absorb K own n tb W w tb' W' w') (ht : TbRep E tb w W) {q : Nat} {x : Row} (hq : q ∉ K) (hx : tb.row q = some x) {b : Nat} (hb : b ∈ W.rb q) : w'.heap[b]? = w.heap[b]? :=
  h.heap b (Sim.lt_row ht hx hb) fun r y hr hy hb' => ht.rr q x r y hx hy (fun e => hq (e ▸ hr)) b hb hb'
theorem Absorb.lf (h : Absorb K own n tb W w tb' W' w') (ht : TbRep E tb w W) {l : Lf} {v : Value} (k : LfRep E tb W w l v) : LfRep E tb' W' w' (intoF tb.rw n own (killK K l)) v := by
  have hhas : ∀ q, q ∈ own → ∃ w, lget tb.rw q = some w := h.has
  have hownK : ∀ q, q ∈ own → q ∉ K := fun q hq hk => h.nown (h.kn q hk ▸ hq)
  rcases killK_spec (K := K) (l := l) with e | ⟨e, hk⟩
  · rw [e, intoF_dead]; trivial
  · rw [e]
    cases l with
    | vw rs e' t xs =>
      rw [intoF_vw hhas]
      exact VwT.frame E.By k fun b hb => h.vis (hk rs rfl) hb
    | pvw rs e' t xs i j =>
      rw [intoF_pvw hhas]
      obtain ⟨hi, a, ha, rfl, cs, hl, hc, hw⟩ := k
      exact ⟨hi, a, (h.vis (hk rs rfl) ha).1, rfl, cs, hl, hc.frame (h.vis (hk rs rfl) ha).2, VwT.frame E.By hw fun b hb => h.vis (hk rs rfl) hb⟩
    | ref p =>
      obtain ⟨⟨x, hx⟩, rfl⟩ := k
      rcases intoF_ref (n := n) (p := p) hhas with ⟨h1, h2⟩ | ⟨u, h1, h2, h3⟩
      · rw [h2]
        obtain ⟨x', k1, _, _, k2, _⟩ := h.row p h1 x hx
        exact ⟨⟨x', k1⟩, k2.symm⟩
      · rw [h3]
        have hu : tb.row p = some u := h2
        have hr := ht.rows p u hu
        have ho := OwT.frame E.By hr.own fun b hb => h.own_heap ht (hownK p h1) hu hb
        refine OwT.vw E.By ho fun b hb => ⟨Nat.lt_of_lt_of_le (Sim.lt_row ht hu hb) h.size, fun o x hx e => ?_, fun r x hx hb' => ?_, ?_⟩
        · obtain ⟨y, hy⟩ := h.newBox o x hx
          rw [(h.box o y hy).2] at e
          exact ht.br o y p u hy hu (e ▸ hb)
        · obtain ⟨k1, k2 | ⟨k2, k3, _⟩⟩ := h.rows r x hx
          · exact List.mem_singleton.2 k2
          · exact absurd (k3 ▸ hb') (ht.rr p u r x hu k2 (fun e => k1 (e ▸ h1)) b hb)
        · rcases hr.mine b hb 0 with hm | hm
          · exact .inr (.inl hm)
          · exact .inr (.inr ⟨0, hm⟩)
    | pel p i j =>
      rcases intoF_pel (n := n) (p := p) (i := i) (j := j) hhas with ⟨h1, h2⟩ | h2
      · rw [h2]
        obtain ⟨x, b, B, hx, hi, hB, rfl⟩ := k
        obtain ⟨x', k1, k2, k3, _, k4⟩ := h.row p h1 x hx
        obtain ⟨B', k5⟩ := k4 b B hB
        exact ⟨x', b, B', k1, k2 ▸ hi, k5, by rw [k3]⟩
      · rw [h2]; trivial
    | pbox o j =>
      rw [intoF_same rfl rfl]
      obtain ⟨⟨x, hx⟩, rfl⟩ := k
      obtain ⟨h1, h2⟩ := h.box o x hx
      exact ⟨h1, by rw [h2]⟩
    | int k' z => rw [intoF_same rfl rfl]; exact k
    | bool b => rw [intoF_same rfl rfl]; exact k
    | str s => rw [intoF_same rfl rfl]; exact k
    | nil e t => rw [intoF_same rfl rfl]; exact k
    | dead => rw [intoF_same rfl rfl]; trivial
    | fn f cs =>
      rw [intoF_same rfl rfl]
      have := LfRep.core (E := E) (st := tb) (st' := tb') (W := W) (W' := W') (w' := w') (l := .fn f cs) id k h.box (fun r hr => by cases hr) (fun rs hr => by cases hr)
      exact this
/-- origins -/
theorem Absorb.org (h : Absorb K own n tb W w tb' W' w') (ht : TbRep E tb w W) {cs : List Value} {o : Option (Nat × Nat)} (hoK : ∀ r i, o = some (r, i) → r ∉ K) (k : OrgRep tb W w cs o) : OrgRep tb' W' w' cs (offG own o) := by
  rcases offG_spec (own := own) o with e | ⟨e, ho⟩
  · rw [e]; trivial
  · rw [e]
    refine OrgRep.core k fun r i e' => ⟨h.row r (ho r i e'), fun b B hB => ?_⟩
    subst e'
    obtain ⟨x, _, _, hx, _⟩ := k
    exact h.own_heap ht (hoK r i rfl) hx (by rw [hB]; exact List.mem_cons_self ..)
theorem Absorb.tbR (h : Absorb K own n tb W w tb' W' w') (ht : TbRep E tb w W) (hbx : ∀ o x, tb'.box o = some x → ∃ y, tb.box o = some y ∧ x = ⟨mapL (fun l => intoF tb.rw n own (killK K l)) y.ls, y.lk⟩)
    (hn : ∀ x, tb'.row n = some x → RwRep E w' W' n x) (hfr : Frame' E.May E.w0 w') : TbRep E tb' w' W' := by
  have newOld : ∀ {r x b}, r ≠ n → r ∉ own → tb.row r = some x → b ∈ W.rb r → b ∉ W'.rb n := fun {r x b} h1 h2 h3 h4 h5 => by
    rcases h.new b h5 with h6 | ⟨q, y, h6 | h6, h7, h8⟩
    · have := Sim.lt_row ht h3 h4; omega
    · exact ht.rr r x q y h3 h7 (fun e => h1 (e.trans (h.kn q h6))) b h4 h8
    · exact ht.rr r x q y h3 h7 (fun e => h2 (e ▸ h6)) b h4 h8
  have boxHeap : ∀ {o y}, tb.box o = some y → w'.heap[(W.bx o).block]? = w.heap[(W.bx o).block]? := fun {o y} hy =>
    h.heap _ (Sim.lt_box ht hy) fun r x _ hx hb => ht.br o y r x hy hx hb
  refine ⟨fun o x hx => ?_, fun r x hx => ?_, fun r x r' x' hx hx' hne b hb hb' => ?_, fun o x r x' hx hx' hb => ?_, fun o x o' x' hx hx' hne he => ?_, hfr⟩
  · obtain ⟨y, hy, rfl⟩ := hbx o x hx
    have k := ht.boxes o y hy
    rw [(h.box o y hy).2]
    refine ⟨k.spot, ?_, fun j hj hl => k.mine j (by rwa [mapL_length] at hj) hl⟩
    obtain ⟨cs, e, h1, h2⟩ := k.cells
    refine ⟨cs, e, (boxHeap hy).trans h1, ?_⟩
    rw [mapL_length]
    exact LfsRep.map (fun l v => h.lf ht) h2
  · obtain ⟨h1, rfl | ⟨h2, e1, e2⟩⟩ := h.rows r x hx
    · exact hn x hx
    · by_cases e : r = n
      · subst e; exact hn x hx
      · have k := ht.rows r x h2
        refine ⟨k.n, ?_, by rw [e1]; exact k.nodup, by rw [e1]; exact k.mine⟩
        rw [e1, e2]
        exact OwT.frame E.By k.own fun b hb => h.own_heap ht (fun hk => e (h.kn r hk)) h2 hb
  · obtain ⟨h1, h2⟩ := h.rows r x hx
    obtain ⟨h1', h2'⟩ := h.rows r' x' hx'
    by_cases e : r = n
    · subst e
      rcases h2' with e | ⟨k1, k2, _⟩
      · exact hne e.symm
      · exact newOld (Ne.symm hne) h1' k1 (k2 ▸ hb') hb
    · rcases h2 with e' | ⟨k1, k2, _⟩
      · exact e e'
      · by_cases e' : r' = n
        · subst e'; exact newOld e h1 k1 (k2 ▸ hb) hb'
        · rcases h2' with e'' | ⟨k1', k2', _⟩
          · exact e' e''
          · exact ht.rr r x r' x' k1 k1' hne b (k2 ▸ hb) (k2' ▸ hb')
  · obtain ⟨y, hy, _⟩ := hbx o x hx
    rw [(h.box o y hy).2] at hb
    obtain ⟨h1, h2⟩ := h.rows r x' hx'
    rcases h2 with rfl | ⟨k1, k2, _⟩
    · rcases h.new _ hb with h6 | ⟨q, z, _, h7, h8⟩
      · have := Sim.lt_box ht hy; omega
      · exact ht.br o y q z hy h7 h8
    · exact ht.br o y r x' hy k1 (k2 ▸ hb)
  · obtain ⟨y, hy, _⟩ := hbx o x hx
    obtain ⟨y', hy', _⟩ := hbx o' x' hx'
    rw [(h.box o y hy).2, (h.box o' y' hy').2] at he
    exact ht.bb o y o' y' hy hy' hne he
end
end
end Go.Ri
/- Stores into rows. -/
namespace Go.Ri
section
variable {E : Env} {P : Program} {T : List TE}

/-! ### data of one make -/
def LV.sk : LV → Ty
  | .int k _ => .int k | .bool _ => .bool | .str _ => .str | .sl e t _ => .slice e t
theorem ikEq_refl (k : IntKind) : ikEq k k = true := Nat.beq_refl _
theorem rd_app : ∀ (t : Ty) (x : t.den) (r : List LV), t.rd (t.out x ++ r) = some (x, r)
  | .int k, x, r => by simp [Ty.out, Ty.rd, ikEq_refl]
  | .bool, x, r => rfl
  | .str, x, r => rfl
  | .slice e t, x, r => by simp [Ty.out, Ty.rd, Ty.beq_refl, castL]
  | .unit, x, r => rfl
  | .pair a b, x, r => by
    simp only [Ty.out, app_eq, List.append_assoc, Ty.rd]
    rw [rd_app a]
    simp only []
    rw [rd_app b]
theorem all_of_out (t : Ty) (x : t.den) : t.all (t.out x) = some x := by
  have := rd_app t x []
  rw [List.append_nil] at this
  simp only [Ty.all, this]
theorem out_sk : ∀ (t : Ty) (x y : t.den), (t.out x).map LV.sk = (t.out y).map LV.sk
  | .int _, _, _ | .bool, _, _ | .str, _, _ | .slice _ _, _, _ | .unit, _, _ => rfl
  | .pair a b, x, y => by simp only [Ty.out, app_eq, List.map_append]; rw [out_sk a x.1 y.1, out_sk b x.2 y.2]
theorem sk_out : ∀ (t : Ty) (x : t.den) (m : List LV), m.map LV.sk = (t.out x).map LV.sk → ∃ y, m = t.out y
  | .int k, x, m, h => by
    obtain ⟨a, rfl⟩ := List.length_eq_one_iff.1 (show m.length = 1 by simpa [Ty.out] using congrArg List.length h)
    cases a <;> simp [Ty.out, LV.sk] at h
    subst h; exact ⟨_, rfl⟩
  | .bool, x, m, h => by
    obtain ⟨a, rfl⟩ := List.length_eq_one_iff.1 (show m.length = 1 by simpa [Ty.out] using congrArg List.length h)
    cases a <;> simp [Ty.out, LV.sk] at h
    exact ⟨_, rfl⟩
  | .str, x, m, h => by
    obtain ⟨a, rfl⟩ := List.length_eq_one_iff.1 (show m.length = 1 by simpa [Ty.out] using congrArg List.length h)
    cases a <;> simp [Ty.out, LV.sk] at h
    exact ⟨_, rfl⟩
  | .slice e t, x, m, h => by
    obtain ⟨a, rfl⟩ := List.length_eq_one_iff.1 (show m.length = 1 by simpa [Ty.out] using congrArg List.length h)
    cases a <;> simp [Ty.out, LV.sk] at h
    obtain ⟨rfl, rfl⟩ := h; exact ⟨_, rfl⟩
  | .unit, x, m, h => by
    have : m = [] := by simpa [Ty.out] using h
    exact ⟨(), this⟩
  | .pair a b, x, m, h => by
    simp only [Ty.out, app_eq, List.map_append] at h
    obtain ⟨m1, m2, rfl, h1, h2⟩ := List.map_eq_append_iff.1 h
    obtain ⟨y, rfl⟩ := sk_out a x.1 m1 h1
    obtain ⟨z, rfl⟩ := sk_out b x.2 m2 h2
    exact ⟨(y, z), by simp [Ty.out, app_eq]⟩
theorem all_of_sk {t : Ty} {l m : List LV} {x : t.den} (h : t.all l = some x) (hm : m.map LV.sk = l.map LV.sk) : ∃ y, t.all m = some y := by
  rw [all_out h] at hm
  obtain ⟨y, rfl⟩ := sk_out t x m hm
  exact ⟨y, all_of_out t y⟩
theorem pasteN_eq {α : Type} (j : Nat) (v l : List α) : pasteN j v l = l.take j ++ (v ++ l.drop (j + v.length)) := by
  unfold pasteN; rw [app_eq, app_eq, takeN_eq, dropN_eq, llen_eq]
theorem elSet_some {t : Ty} {xs xs' : List t.den} {i j : Nat} {v : List LV} (h : elSet t xs i j v = some xs') (x : t.den) : ∃ y, t.all (pasteN j v (t.out x)) = some y ∧ pasteN j v (t.out x) = t.out y := by
  unfold elSet at h
  split at h
  · rename_i y hy
    obtain ⟨z, hz⟩ := all_of_sk (m := pasteN j v (t.out x)) hy (by
      simp only [pasteN_eq, List.map_append, List.map_take, List.map_drop]
      rw [out_sk t x t.dflt])
    exact ⟨z, hz, all_out hz⟩
  · cases h
theorem elSet_eq {t : Ty} {xs xs' : List t.den} {i j : Nat} {v : List LV} (h : elSet t xs i j v = some xs') : xs' = xs.modify i fun x => getT (t.all (pasteN j v (t.out x))) x := by
  unfold elSet at h
  split at h
  · cases h; rfl
  · cases h

/-! ### values that are handed over -/
def rbs (W : Wit) : List Nat → List Nat
  | [] => [] | q :: own => W.rb q ++ rbs W own
theorem mem_rbs {W : Wit} {b : Nat} : ∀ {own : List Nat}, b ∈ rbs W own ↔ ∃ q, q ∈ own ∧ b ∈ W.rb q
  | [] => by simp [rbs]
  | q :: own => by simp [rbs, mem_rbs (own := own)]
theorem lvs_cons {s : St} {l : Lf} {ls : List Lf} {lv : List LV} (h : s.lvs (l :: ls) = some lv) : ∃ a b, s.lv l = some a ∧ s.lvs ls = some b ∧ lv = a :: b := by
  simp only [St.lvs] at h
  split at h
  · rename_i a ha
    split at h
    · rename_i b hb; cases h; exact ⟨a, b, ha, hb, rfl⟩
    · cases h
  · cases h
/-- what a leaf owns -/
def Lf.own : Lf → List Nat
  | .ref r => [r] | _ => []
theorem ownRows_cons {l : Lf} {ls : List Lf} {own : List Nat} (h : ownRows (l :: ls) = some own) : ∃ own', ownRows ls = some own' ∧ own = l.own ++ own' ∧ (∀ rs e t xs, l ≠ .vw rs e t xs) := by
  cases l with
  | ref r =>
    simp only [ownRows] at h
    split at h
    · rename_i a ha; cases h; exact ⟨a, ha, rfl, by simp⟩
    · cases h
  | vw => simp [ownRows] at h
  | pbox => simp [ownRows] at h
  | pel => simp [ownRows] at h
  | pvw => simp [ownRows] at h
  | dead => simp [ownRows] at h
  | _ => exact ⟨own, h, rfl, by simp⟩
theorem own_has {s : St} : ∀ {ls : List Lf} {own : List Nat} {lv : List LV}, ownRows ls = some own → s.lvs ls = some lv → ∀ q, q ∈ own → ∃ x, s.row q = some x
  | [], own, _, h, _, q, hq => by simp [ownRows] at h; subst h; cases hq
  | l :: ls, own, lv, h, hl, q, hq => by
    obtain ⟨own', h1, rfl, _⟩ := ownRows_cons h
    obtain ⟨a, b, h2, h3, rfl⟩ := lvs_cons hl
    rcases List.mem_append.1 hq with hq | hq
    · cases l <;> simp only [Lf.own, List.mem_singleton, List.not_mem_nil] at hq
      subst hq
      simp only [St.lv] at h2
      split at h2
      · rename_i x hx; exact ⟨x, hx⟩
      · cases h2
    · exact own_has h1 h3 q hq
theorem own_rep {s : St} {W : Wit} {w w' : World} (ht : TbRep E s.tb w W) : ∀ {ls : List Lf} {vs : List Value} {own : List Nat} {lv : List LV}, ownRows ls = some own → s.lvs ls = some lv → LfsRep E s.tb W w ls vs →
    (∀ q, q ∈ own → ∀ b, b ∈ W.rb q → w'.heap[b]? = w.heap[b]?) → OwLs E.By w' (rbs W own) vs lv
  | [], vs, own, lv, h, hl, hr, _ => by
    simp only [ownRows, Option.some.injEq] at h
    simp only [St.lvs, Option.some.injEq] at hl
    subst h; subst hl
    cases vs with
    | nil => rfl
    | cons => exact hr.elim
  | l :: ls, [], own, lv, h, hl, hr, _ => hr.elim
  | l :: ls, v :: vs, own, lv, h, hl, hr, hw => by
    obtain ⟨own', h1, rfl, hnv⟩ := ownRows_cons h
    obtain ⟨a, b, h2, h3, rfl⟩ := lvs_cons hl
    have hrest := own_rep ht h1 h3 hr.2 fun q hq => hw q (List.mem_append_right _ hq)
    obtain ⟨hl1, _⟩ := hr.1
    refine ⟨rbs W l.own, rbs W own', ?_, ?_, hrest⟩
    · cases l <;> simp [Lf.own, rbs]
    · cases l with
      | int k z =>
        simp only [St.lv, Option.some.injEq] at h2; subst h2
        exact ⟨by rw [hl1.1], hl1.2, rfl⟩
      | bool z =>
        simp only [St.lv, Option.some.injEq] at h2; subst h2
        exact ⟨by rw [show v = _ from hl1], rfl⟩
      | str z =>
        simp only [St.lv, Option.some.injEq] at h2; subst h2
        exact ⟨by rw [hl1.1], hl1.2, rfl⟩
      | nil e t =>
        simp only [St.lv, Option.some.injEq] at h2; subst h2
        exact .inl ⟨by rw [show v = _ from hl1], rfl, rfl⟩
      | ref r =>
        simp only [St.lv] at h2
        split at h2
        · rename_i x hx
          cases h2
          obtain ⟨_, rfl⟩ := hl1
          have hr := ht.rows r x hx
          have : OwT E.By (.slice x.e x.t) w' (W.rb r) [W.rv r] x.xs := OwT.frame E.By hr.own fun b hb => hw r (by simp [Lf.own]) b hb
          simp only [Lf.own, rbs, List.append_nil]
          exact this
        · cases h2
      | vw rs e t xs => exact absurd rfl (hnv rs e t xs)
      | pbox => simp [St.lv] at h2
      | pel => simp [St.lv] at h2
      | pvw => simp [St.lv] at h2
      | fn => simp [St.lv] at h2
      | dead => simp [St.lv] at h2
theorem rbs_nodup {tb : Tb} {W : Wit} {w : World} (ht : TbRep E tb w W) : ∀ {own : List Nat}, own.Nodup → (∀ q, q ∈ own → ∃ x, tb.row q = some x) → (rbs W own).Nodup
  | [], _, _ => by simp [rbs]
  | q :: own, hn, hr => by
    obtain ⟨x, hx⟩ := hr q (List.mem_cons_self ..)
    obtain ⟨h1, h2⟩ := List.nodup_cons.1 hn
    refine List.nodup_append.2 ⟨(ht.rows q x hx).nodup, rbs_nodup ht h2 fun p hp => hr p (List.mem_cons_of_mem _ hp), fun a ha b hb e => ?_⟩
    subst e
    obtain ⟨p, hp, hb⟩ := mem_rbs.1 hb
    obtain ⟨y, hy⟩ := hr p (List.mem_cons_of_mem _ hp)
    exact ht.rr q x p y hx hy (fun e => h1 (e ▸ hp)) a ha hb

/-! ### one element's cells, replaced -/
theorem seg_other {cs : Array Value} {i i' j n m : Nat} {vs : List Value} (h : i * n + j + vs.length ≤ cs.size) (hj : j + vs.length ≤ n) (hne : i' ≠ i) : seg (wrC cs (i * n + j) vs) i' n = seg cs i' n := by
  apply List.ext_getElem?
  intro k
  unfold seg
  have hg := wrC_get vs cs (i * n + j) (i' * n + k) h
  rw [← Array.getElem?_toList] at hg
  simp only [List.getElem?_take, List.getElem?_drop]
  split
  · rename_i hk
    rw [hg, if_neg, Array.getElem?_toList]
    intro ⟨h1, h2⟩
    rcases Nat.lt_or_gt_of_ne hne with hlt | hlt
    · have := Nat.mul_le_mul_right n hlt
      rw [Nat.succ_mul] at this; omega
    · have := Nat.mul_le_mul_right n hlt
      rw [Nat.succ_mul] at this; omega
  · rfl
theorem getD_modify {α : Type} (f : α → α) (d : α) : ∀ (xs : List α) (i k : Nat), (xs.modify i f).getD k d = if i = k ∧ k < xs.length then f (xs.getD k d) else xs.getD k d
  | xs, i, k => by
    simp only [List.getD_eq_getElem?_getD, List.getElem?_modify]
    by_cases e : i = k
    · subst e
      by_cases hl : i < xs.length
      · simp [hl]
      · simp [hl, List.getElem?_eq_none (Nat.le_of_not_lt hl)]
    · simp [e]
theorem getD_set {α : Type} (d a : α) (xs : List α) (i k : Nat) (h : i < xs.length) : (xs.set i a).getD k d = if i = k then a else xs.getD k d := by
  simp only [List.getD_eq_getElem?_getD, List.getElem?_set]
  by_cases e : i = k
  · subst e; simp [h]
  · simp [e]
theorem flatten_set {Bs : List (List Nat)} {i : Nat} (h : i < Bs.length) (X : List Nat) : List.flatten (Bs.set i X) = List.flatten (Bs.take i) ++ (X ++ List.flatten (Bs.drop (i + 1))) := by
  rw [List.set_eq_take_append_cons_drop, if_pos h]; simp
theorem flatten_at {Bs : List (List Nat)} {i : Nat} (h : i < Bs.length) : List.flatten Bs = List.flatten (Bs.take i) ++ (Bs.getD i [] ++ List.flatten (Bs.drop (i + 1))) := by
  have := flatten_set h (Bs.getD i [])
  rwa [show Bs.set i (Bs.getD i []) = Bs by
    apply List.ext_getElem?; intro k; simp only [List.getElem?_set, List.getD_eq_getElem?_getD]
    by_cases e : i = k
    · subst e; simp [h]
    · simp [e]] at this

theorem OwLs_frame {By : TypeId → Nat} {w w' : World} : ∀ {D : List Nat} {us : List Value} {ms : List LV}, OwLs By w D us ms → (∀ c, c ∈ D → w'.heap[c]? = w.heap[c]?) → OwLs By w' D us ms
  | _, [], [], k, _ => k
  | _, u :: us, m :: ms, k, hf => by
    obtain ⟨D1, D2, rfl, k1, k2⟩ := k
    refine ⟨D1, D2, rfl, ?_, OwLs_frame k2 fun c hc => hf c (List.mem_append_right _ hc)⟩
    have hf : ∀ c, c ∈ D1 → w'.heap[c]? = w.heap[c]? := fun c hc => hf c (List.mem_append_left _ hc)
    cases m <;> exact OwT.frame By k1 hf
  | _, [], _ :: _, k, _ => k.elim
  | _, _ :: _, [], k, _ => k.elim
theorem own_set {By : TypeId → Nat} {w w' : World} {B C : List Nat} {e : TypeId} {t : Ty} {v : Value} {xs xs' : List t.den} {i j : Nat} {vs : List Value} {lv : List LV}
    (ho : OwT By (.slice e t) w B [v] xs) (hi : i < xs.length) (hB : B.Nodup) (hC : C.Nodup) (hBC : ∀ b, b ∈ B → b ∉ C) (hv : OwLs By w' C vs lv) (hj : j + vs.length ≤ t.sz) (hs : elSet t xs i j lv = some xs') {b : Nat} {B' : List Nat} (hb : B = b :: B')
    (hw : ∀ cs e' fr, w.heap[b]? = some (.cells cs e' fr) → w'.heap[b]? = some (.cells (wrC cs (i * t.sz + j) vs) e' fr)) (hold : ∀ c, c ∈ B' → w'.heap[c]? = w.heap[c]?) :
    ∃ D, OwT By (.slice e t) w' (b :: D) [v] xs' ∧ (b :: D).Nodup ∧ (∀ c, c ∈ D → c ∈ B' ∨ c ∈ C) ∧ xs'.length = xs.length ∧ ∀ c, c ∈ C → c ∈ D := by
  have hlv : lv.length = vs.length := (OwLs_len By hv).symm
  rcases ho with ⟨_, rfl, _⟩ | ⟨b2, cap, cs, Bs, h1, h2, h3, h4, h5, h6, h7, h8, h9⟩
  · simp at hi
  · rw [hb] at h7
    injection h7 with e1 e2
    subst e1; subst e2
    have hcap : i * t.sz + t.sz ≤ cs.size := by
      rw [h3, ← Nat.succ_mul]; exact Nat.mul_le_mul_right _ (by omega)
    have hib : i < Bs.length := by omega
    -- the element
    have hel := (OwT_iff By (t := t)).1 (h9 i hi)
    have hnodup : Bs.flatten.Nodup := (List.nodup_cons.1 (hb ▸ hB)).2
    have hbn : b ∉ Bs.flatten := (List.nodup_cons.1 (hb ▸ hB)).1
    have hout : (t.out (xs.getD i t.dflt)).length = t.sz := out_len t _
    obtain ⟨B1, B23, eB, k1, k23⟩ := OwLs_split By (n := j) (ls := (t.out (xs.getD i t.dflt)).take j) (ms := (t.out (xs.getD i t.dflt)).drop j) (by rw [List.length_take, hout]; omega) (by rw [List.take_append_drop]; exact hel)
    obtain ⟨B2, B3, eB', k2, k3⟩ := OwLs_split By (n := vs.length) (ls := ((t.out (xs.getD i t.dflt)).drop j).take vs.length) (ms := ((t.out (xs.getD i t.dflt)).drop j).drop vs.length) (by rw [List.length_take, List.length_drop, hout]; omega) (by rw [List.take_append_drop]; exact k23)
    subst eB'
    rw [List.drop_drop] at k3
    rw [List.drop_drop] at k3
    obtain ⟨y, hy1, hy2⟩ := elSet_some hs (xs.getD i t.dflt)
    have e' := elSet_eq hs
    have hlen' : xs'.length = xs.length := by rw [e', List.length_modify]
    -- frames
    have fr : ∀ {D : List Nat} {us : List Value} {ms : List LV}, (∀ c, c ∈ D → c ∈ Bs.flatten) → OwLs By w D us ms → OwLs By w' D us ms := fun hD k => OwLs_frame k fun c hc => hold c (hD c hc)
    have hmem : ∀ c, c ∈ Bs.getD i [] → c ∈ Bs.flatten := fun c hc => mem_flatten_getD hc
    have m1 : ∀ c, c ∈ B1 → c ∈ Bs.flatten := fun c hc => hmem c (by rw [eB]; simp [hc])
    have m3 : ∀ c, c ∈ B3 → c ∈ Bs.flatten := fun c hc => hmem c (by rw [eB]; simp [hc])
    have hnew : OwT By t w' (B1 ++ (C ++ B3)) (seg (wrC cs (i * t.sz + j) vs) i t.sz) y := by
      refine (OwT_iff By (t := t)).2 ?_
      rw [← hy2, pasteN_eq]
      have := wr_cut (cs := cs) (o := i * t.sz) (n := t.sz) (j := j) (m := vs.length) (vs := vs) hcap hj rfl
      unfold seg
      rw [this]
      refine OwLs_append By (fr m1 ?_) (OwLs_append By hv (fr m3 ?_))
      · exact k1
      · rw [hlv]; exact k3
    refine ⟨(Bs.set i (B1 ++ (C ++ B3))).flatten, .inr ⟨b, cap, _, Bs.set i (B1 ++ (C ++ B3)), by rw [hlen']; exact h1, hw _ _ _ h2, by rw [wrC_size]; exact h3, by omega, by rw [hlen']; exact h5, by omega, rfl, by rw [List.length_set]; omega, fun k hk => ?_⟩, ?_, fun c hc => ?_, hlen', fun c hc => ?_⟩
    · rw [getD_set _ _ _ _ _ hib]
      by_cases e : i = k
      · subst e
        rw [if_pos rfl, e', getD_modify, if_pos ⟨rfl, hi⟩, hy1]
        exact hnew
      · rw [if_neg e, e', getD_modify, if_neg (fun h => e h.1), seg_other (i := i) (j := j) (m := 0) (by omega) hj (Ne.symm e)]
        refine OwT.frame By (h9 k (by omega)) fun c hc => hold c (mem_flatten_getD hc)
    · rw [flatten_set hib]
      rw [flatten_at hib, eB] at hnodup hbn
      have hBC' : ∀ c, c ∈ C → c ≠ b ∧ c ∉ Bs.flatten := fun c hc => ⟨fun e => hBC b (by rw [hb]; simp) (e ▸ hc), fun hm => hBC c (by rw [hb]; simp [hm]) hc⟩
      rw [flatten_at hib, eB] at hBC'
      simp only [List.nodup_cons, List.nodup_append, List.mem_append, not_or] at hnodup hbn hBC' ⊢
      grind
    · rw [flatten_set hib] at hc
      rw [flatten_at hib, eB]
      simp only [List.mem_append] at hc ⊢
      grind
    · rw [flatten_set hib]; simp [hc]
end
end Go.Ri
/- A store into a row's element. -/
namespace Go.Ri
section
variable {E : Env} {P : Program} {T : List TE}

def Wit.setRb (W : Wit) (r : Nat) (B : List Nat) : Wit := { W with rb := fun q => if q = r then B else W.rb q }
theorem lget_mapBx' {f : Lf → Lf} {l : List (Option Bx)} {o : Nat} {x : Bx} (h : lget (mapBx f l) o = some x) : ∃ y, lget l o = some y ∧ x = ⟨mapL f y.ls, y.lk⟩ := by
  rw [lget_mapBx] at h
  cases e : lget l o with
  | none => rw [e] at h; cases h
  | some y => rw [e] at h; cases h; exact ⟨y, rfl, rfl⟩
theorem noneAt_length {own : List Nat} : ∀ {rw : List (Option Row)}, (noneAt rw own).length = rw.length := by
  induction own with
  | nil => intro rw; rfl
  | cons q own ih => intro rw; simp only [noneAt, ih, lset_length]
theorem memN_f {n : Nat} {l : List Nat} (h : memN n l = false) : n ∉ l := fun k => by rw [memN_iff.2 k] at h; cases h

theorem op_store_el (hT : TOk P T) {s : St} {o : Oper} (hdst : o.dst = none) {t : TypeId} {p x : Operand} (e : o.op = .store t p x) (hp : okOperand p = true) (hx : okOperand x = true) (hd : (te T t).d ≠ .no) {y y' : Ty} {r i j : Nat} {rw : Row} {sv : SV} {ls : List Lf} {own : List Nat} {lv : List LV} {xs : List rw.t.den}
    (h1 : evl s y p = some (.pel r i j)) (h2 : ev s y' x = some sv) (h3 : sv.ls? = some ls) (h4 : ls.length = (te T t).d.ty.sz) (hr : s.row r = some rw) (ho : ownRows ls = some own) (hl : s.lvs ls = some lv)
    (hro : memN r own = false) (hnd : nodupN own = true) (hj : j + ls.length ≤ rw.t.sz) (hxs : elSet rw.t rw.xs i j lv = some xs) :
    OpOk E P o s (((s.killRow r).intoRows r own).setRow r { rw with xs := xs }) := by
  refine OpOk.store hdst fun a w W hs => ?_
  obtain ⟨⟨rw2, b, B', hr2, hi, hB, hv⟩, _⟩ := evl_rep h1 hp hs
  have er : rw2 = rw := by have : s.tb.row r = some rw := hr; rw [this] at hr2; cases hr2; rfl
  subst er
  have hrn : r ∉ own := memN_f hro
  have hown := nodupN_iff.1 hnd
  have hhas := own_has ho hl
  have hlr := ls_rep h3 (ev_rep h2 hx hs)
  have hvlen : ls.length = (a.eval x).cells.toList.length := LfsRep_len hlr
  have hrr := hs.tb.rows r rw2 hr2
  have hin : i < rw2.xs.length := by rw [← hrr.n]; exact hi
  -- the row's block
  obtain ⟨cap, cs, hcs, hcz, hcn⟩ : ∃ cap cs, w.heap[b]? = some (.cells cs rw2.e (0, 0)) ∧ cs.size = cap * rw2.t.sz ∧ rw2.xs.length ≤ cap := by
    rcases hrr.own with ⟨_, e, _⟩ | ⟨b2, cap, cs, Bs, k1, k2, k3, k4, k5, k6, k7, k8, k9⟩
    · rw [e] at hin; simp at hin
    · rw [hB] at k7
      injection k7 with e1 e2
      subst e1
      exact ⟨cap, cs, k2, k3, k4⟩
  have hcap : i * rw2.t.sz + rw2.t.sz ≤ cs.size := by
    rw [hcz, ← Nat.succ_mul]; exact Nat.mul_le_mul_right _ (by omega)
  have hvl : (a.eval x).cells.size = (te T t).d.ty.sz := by rw [← h4, hvlen, Array.length_toList]
  obtain ⟨w', r1, r2, r3⟩ := run_storeVar (P := P) (cells_ok hT (sz_pos hT t hd)) hvl hcs (off := i * rw2.t.sz + j) (by rw [← h4]; omega) (LfsRep_one hlr)
  -- what row r holds now
  have hbB : b ∈ W.rb r := by rw [hB]; exact List.mem_cons_self ..
  have hother : ∀ q, q ∈ own → ∀ c, c ∈ W.rb q → w'.heap[c]? = w.heap[c]? := fun q hq c hc => by
    obtain ⟨z, hz⟩ := hhas q hq
    exact r3.heap c fun e => hs.tb.rr q z r rw2 hz hr2 (fun e => hrn (e ▸ hq)) c hc (e ▸ hbB)
  have hC := own_rep (w' := w') hs.tb ho hl hlr hother
  have hCn := rbs_nodup hs.tb hown hhas
  have hBC : ∀ c, c ∈ W.rb r → c ∉ rbs W own := fun c hc hc' => by
    obtain ⟨q, hq, hcq⟩ := mem_rbs.1 hc'
    obtain ⟨z, hz⟩ := hhas q hq
    exact hs.tb.rr r rw2 q z hr2 hz (fun e => hrn (e ▸ hq)) c hc hcq
  have hbn : b ∉ B' := by have := hrr.nodup; rw [hB] at this; exact (List.nodup_cons.1 this).1
  obtain ⟨D, k1, k2, k3, k4, k5⟩ := own_set (w' := w') hrr.own hin hrr.nodup hCn hBC hC (by rw [← hvlen]; exact hj) hxs hB
    (fun cs' e' fr hh => by rw [hcs] at hh; cases hh; exact r2) (fun c hc => r3.heap c fun e => hbn (e ▸ hc))
  -- the tables
  have hrlt : r < s.rw.length := lget_lt (l := s.rw) hr
  let W' := W.setRb r (b :: D)
  let F := fun l => intoF s.rw r own (killK [r] l)
  let tb' : Tb := ⟨mapBx F s.bx, lset (noneAt s.rw own) r (some { rw2 with xs := xs })⟩
  have hrow : ∀ q z, tb'.row q = some z → q ∉ own ∧ ((q = r ∧ z = { rw2 with xs := xs }) ∨ (q ≠ r ∧ s.tb.row q = some z)) := by
    intro q z hz
    have hz : lget (lset (noneAt s.rw own) r (some { rw2 with xs := xs })) q = some z := hz
    rw [lget_lset, noneAt_length] at hz
    by_cases e : r = q
    · subst e
      rw [if_pos ⟨rfl, hrlt⟩] at hz; cases hz
      exact ⟨hrn, .inl ⟨rfl, rfl⟩⟩
    · rw [if_neg (fun h => e h.1), lget_noneAt] at hz
      split at hz
      · cases hz
      · rename_i hq; exact ⟨hq, .inr ⟨Ne.symm e, hz⟩⟩
  have hrowr : tb'.row r = some { rw2 with xs := xs } := by
    show lget (lset (noneAt s.rw own) r (some { rw2 with xs := xs })) r = _
    rw [lget_lset, noneAt_length, if_pos ⟨rfl, hrlt⟩]
  have hrbr : W'.rb r = b :: D := by simp [W', Wit.setRb]
  have hrbo : ∀ q, q ≠ r → W'.rb q = W.rb q := fun q hq => by simp [W', Wit.setRb, hq]
  have habs : Absorb [r] own r s.tb W w tb' W' w' := by
    refine ⟨by rw [r3.size]; exact Nat.le_refl _, fun c _ hc => r3.heap c fun e => hc r rw2 (by simp) hr2 (e ▸ hbB), by simp, hrn, hhas, fun o' z hz => ⟨?_, rfl⟩, fun o' z hz => ?_, fun q hq z hz => ?_, fun q z hz => ?_, fun c hc => ?_⟩
    · refine ⟨⟨mapL F z.ls, z.lk⟩, ?_⟩
      show lget (mapBx F s.bx) o' = _
      rw [lget_mapBx, show lget s.bx o' = some z from hz]; rfl
    · obtain ⟨y, hy, _⟩ := lget_mapBx' (show lget (mapBx F s.bx) o' = some z from hz)
      exact ⟨y, hy⟩
    · by_cases e : q = r
      · subst e
        rw [hr2] at hz; cases hz
        exact ⟨_, hrowr, rfl, rfl, rfl, fun b2 B2 e2 => by rw [hB] at e2; cases e2; exact ⟨D, hrbr⟩⟩
      · refine ⟨z, ?_, rfl, rfl, rfl, fun b2 B2 e2 => ⟨B2, by rw [hrbo q e]; exact e2⟩⟩
        show lget (lset (noneAt s.rw own) r (some { rw2 with xs := xs })) q = _
        rw [lget_lset, if_neg (fun h => e h.1.symm), lget_noneAt, if_neg hq]; exact hz
    · obtain ⟨h1, ⟨h2, _⟩ | ⟨h2, h3⟩⟩ := hrow q z hz
      · exact ⟨h1, .inl h2⟩
      · exact ⟨h1, .inr ⟨h3, hrbo q h2, rfl⟩⟩
    · rw [hrbr] at hc
      right
      rcases List.mem_cons.1 hc with rfl | hc
      · exact ⟨r, rw2, .inl (by simp), hr2, hbB⟩
      · rcases k3 c hc with hc | hc
        · exact ⟨r, rw2, .inl (by simp), hr2, by rw [hB]; exact List.mem_cons_of_mem _ hc⟩
        · obtain ⟨q, hq, hcq⟩ := mem_rbs.1 hc
          obtain ⟨z, hz⟩ := hhas q hq
          exact ⟨q, z, .inr hq, hz, hcq⟩
  have hmine : ∀ c, c ∈ b :: D → ∀ j, Mine E c j := fun c hc => by
    rcases habs.new c (by rw [hrbr]; exact hc) with h | ⟨q, z, _, hz, hcq⟩
    · intro j; left
      have := hs.tb.frame.size
      omega
    · exact (hs.tb.rows q z hz).mine c hcq
  have htb : TbRep E tb' w' W' := habs.tbR hs.tb (fun o' z hz => ?_) (fun z hz => ?_) ?_
  · have key := hs.move (f := F) (g := fun o => offG own (offOrg r o)) (fun l v k => habs.lf hs.tb k) (fun cs' o' k => ?_) htb
    · refine ⟨w', W', exec_store o e _ (by rw [hv]) r1, ?_⟩
      have est : (((s.killRow r).intoRows r own).setRow r { rw2 with xs := xs }) = ⟨mapSl F (fun o => offG own (offOrg r o)) s.sl, tb'.bx, tb'.rw⟩ := by
        rw [intoRows_eq (s := s.killRow r) hown (fun q hq => hhas q hq)]
        simp only [St.killRow, St.mapLf, St.setRow, mapSl_comp, mapBx_comp]
        rfl
      rw [est]; exact key
    · rcases safeO_off r o' with e' | ⟨e', h'⟩
      · rw [e']
        have : offG own none = none := by rcases offG_spec (own := own) none with h | ⟨h, _⟩ <;> exact h
        rw [this]; trivial
      · rw [e']
        exact habs.org hs.tb (fun q i' hq => h' q i' hq) k
  · obtain ⟨y, hy, rfl⟩ := lget_mapBx' (show lget (mapBx F s.bx) o' = some z from hz)
    exact ⟨y, hy, rfl⟩
  · rw [hrowr] at hz; cases hz
    refine ⟨by rw [k4]; exact hrr.n, by rw [hrbr]; exact k1, by rw [hrbr]; exact k2, by rw [hrbr]; exact hmine⟩
  · refine frame_same hs.tb.frame r3 hcs r2 (wrC_size ..) fun i' => ?_
    left
    exact hrr.mine b hbB i'
end
end Go.Ri
/- New rows. -/
namespace Go.Ri
section
variable {E : Env} {P : Program} {T : List TE}

theorem intoF_app {n : Nat} {x : Option Row} : ∀ {own : List Nat} {rw : List (Option Row)} (l : Lf), (∀ q, q ∈ own → ∃ x, lget rw q = some x) → intoF (app rw [x]) n own l = intoF rw n own l
  | [], _, _, _ => rfl
  | q :: own, rw, l, h => by
    obtain ⟨y, hy⟩ := h q (List.mem_cons_self ..)
    have e : lget (app rw [x]) q = lget rw q := by rw [lget_append, if_pos (lget_lt hy)]
    simp only [intoF, e]
    exact intoF_app _ fun p hp => h p (List.mem_cons_of_mem _ hp)
/-- A new row, out of the rows own and new blocks. -/
theorem Sim.makeRow {s : St} {tm : Array Value} {w : World} {W : Wit} (hs : Sim E s tm w W) {own : List Nat} (hown : own.Nodup) (hhas : ∀ q, q ∈ own → ∃ x, s.row q = some x) {row : Row} {w' : World} {v : Value} {B : List Nat}
    (hsize : w.heap.size ≤ w'.heap.size) (hheap : ∀ b, b < w.heap.size → w'.heap[b]? = w.heap[b]?) (hfr : Frame' E.May E.w0 w') (hrep : OwT E.By (.slice row.e row.t) w' B [v] row.xs) (hn : row.n = row.xs.length) (hB : B.Nodup)
    (hin : ∀ b, b ∈ B → w.heap.size ≤ b ∨ b ∈ rbs W own) :
    Sim E ((s.newRow row).intoRows (llen s.rw) own) tm w' (W.addRow s.rw.length v B) ∧ SVRep E ((s.newRow row).intoRows (llen s.rw) own).tb (W.addRow s.rw.length v B) w' (.one (.ref (llen s.rw))) v := by
  have hlt : ∀ q x, s.row q = some x → q < s.rw.length := fun q x h => lget_lt (l := s.rw) h
  have hnown : s.rw.length ∉ own := fun h => by obtain ⟨x, hx⟩ := hhas _ h; exact Nat.lt_irrefl _ (hlt _ x hx)
  let F := fun l => intoF s.rw s.rw.length own (killK [] l)
  let W' := W.addRow s.rw.length v B
  let tb' : Tb := ⟨mapBx F s.bx, noneAt (app s.rw [some row]) own⟩
  have est : (s.newRow row).intoRows (llen s.rw) own = ⟨mapSl F (fun o => offG own o) s.sl, tb'.bx, tb'.rw⟩ := by
    rw [llen_eq, intoRows_eq (s := s.newRow row) hown (fun q hq => by
      obtain ⟨x, hx⟩ := hhas q hq
      exact ⟨x, by show lget (app s.rw [some row]) q = some x; rw [lget_append, if_pos (hlt q x hx)]; exact hx⟩)]
    have eF : intoF (s.newRow row).rw s.rw.length own = F := by
      funext l
      exact intoF_app (rw := s.rw) l hhas
    rw [eF]; rfl
  have hrow : ∀ q z, tb'.row q = some z → q ∉ own ∧ ((q = s.rw.length ∧ z = row) ∨ (q ≠ s.rw.length ∧ s.tb.row q = some z)) := by
    intro q z hz
    have hz : lget (noneAt (app s.rw [some row]) own) q = some z := hz
    rw [lget_noneAt] at hz
    split at hz
    · cases hz
    · rename_i hq
      rw [lget_app_new] at hz
      split at hz
      · exact ⟨hq, .inr ⟨by omega, hz⟩⟩
      · split at hz
        · rename_i e; cases hz; exact ⟨hq, .inl ⟨e, rfl⟩⟩
        · cases hz
  have hnew : tb'.row s.rw.length = some row := by
    show lget (noneAt (app s.rw [some row]) own) s.rw.length = _
    rw [lget_noneAt, if_neg hnown, lget_app_new]; simp
  have hrbn : W'.rb s.rw.length = B := by simp [W', Wit.addRow]
  have hrbo : ∀ q, q ≠ s.rw.length → W'.rb q = W.rb q ∧ W'.rv q = W.rv q := fun q hq => by simp [W', Wit.addRow, hq]
  have habs : Absorb [] own s.rw.length s.tb W w tb' W' w' := by
    refine ⟨hsize, fun c hc _ => hheap c hc, by simp, hnown, hhas, fun o' z hz => ⟨?_, rfl⟩, fun o' z hz => ?_, fun q hq z hz => ?_, fun q z hz => ?_, fun c hc => ?_⟩
    · refine ⟨⟨mapL F z.ls, z.lk⟩, ?_⟩
      show lget (mapBx F s.bx) o' = _
      rw [lget_mapBx, show lget s.bx o' = some z from hz]; rfl
    · obtain ⟨y, hy, _⟩ := lget_mapBx' (show lget (mapBx F s.bx) o' = some z from hz)
      exact ⟨y, hy⟩
    · have hq' : q ≠ s.rw.length := Nat.ne_of_lt (hlt q z hz)
      refine ⟨z, ?_, rfl, rfl, (hrbo q hq').2, fun b2 B2 e2 => ⟨B2, by rw [(hrbo q hq').1]; exact e2⟩⟩
      show lget (noneAt (app s.rw [some row]) own) q = _
      rw [lget_noneAt, if_neg hq, lget_app_new, if_pos (hlt q z hz)]; exact hz
    · obtain ⟨h1, ⟨h2, _⟩ | ⟨h2, h3⟩⟩ := hrow q z hz
      · exact ⟨h1, .inl h2⟩
      · exact ⟨h1, .inr ⟨h3, hrbo q h2⟩⟩
    · rw [hrbn] at hc
      rcases hin c hc with h | h
      · exact .inl h
      · obtain ⟨q, hq, hcq⟩ := mem_rbs.1 h
        obtain ⟨z, hz⟩ := hhas q hq
        exact .inr ⟨q, z, .inr hq, hz, hcq⟩
  have htb : TbRep E tb' w' W' := by
    refine habs.tbR hs.tb (fun o' z hz => ?_) (fun z hz => ?_) hfr
    · obtain ⟨y, hy, rfl⟩ := lget_mapBx' (show lget (mapBx F s.bx) o' = some z from hz)
      exact ⟨y, hy, rfl⟩
    · rw [hnew] at hz; cases hz
      have erv : W'.rv s.rw.length = v := by simp [W', Wit.addRow]
      refine ⟨hn, by rw [hrbn, erv]; exact hrep, by rw [hrbn]; exact hB, fun b hb => ?_⟩
      rw [hrbn] at hb
      rcases hin b hb with h | h
      · intro j; left; have := hs.tb.frame.size; omega
      · obtain ⟨q, hq, hcq⟩ := mem_rbs.1 h
        obtain ⟨z, hz⟩ := hhas q hq
        exact (hs.tb.rows q z hz).mine b hcq
  constructor
  · rw [est]
    exact hs.move (f := F) (g := fun o => offG own o) (fun l v k => habs.lf hs.tb k) (fun cs' o' k => habs.org hs.tb (fun _ _ _ => by simp) k) htb
  · have e2 : ((s.newRow row).intoRows (llen s.rw) own).tb = tb' := by rw [est]; rfl
    rw [e2, llen_eq]
    refine ⟨⟨⟨row, hnew⟩, by simp [Wit.addRow]⟩, ?_⟩
    rcases hrep with ⟨e, _⟩ | ⟨_, _, _, _, e, _⟩
    · simp only [List.cons.injEq, and_true] at e; rw [e]; rfl
    · simp only [List.cons.injEq, and_true] at e; rw [e]; rfl

/-! ### rows that are gone -/
def dropF : List Nat → Lf → Lf
  | [], l => l
  | r :: R, l => dropF R (Lf.drop r l)
theorem dropF_dead : ∀ {R : List Nat}, dropF R .dead = .dead
  | [] => rfl
  | a :: R => dropF_dead (R := R)
theorem gone_cons {r : Nat} {R : List Nat} {l : Lf} (h1 : l.gone [r] [r] = false) (h2 : l.gone R R = false) : l.gone (r :: R) (r :: R) = false := by
  cases l with
  | ref q => simp only [Lf.gone, memN, Bool.or_false] at *; simp [h1, h2]
  | pel q i j => simp only [Lf.gone, memN, Bool.or_false] at *; simp [h1, h2]
  | vw rs e t xs => simp only [Lf.gone, Bool.not_eq_false', disj, Bool.and_true, Bool.and_eq_true] at *; exact ⟨h1, h2⟩
  | pvw rs e t xs i j => simp only [Lf.gone, Bool.not_eq_false', disj, Bool.and_true, Bool.and_eq_true] at *; exact ⟨h1, h2⟩
  | _ => rfl
theorem safe_dropF : ∀ R, Safe R R (dropF R)
  | [] => fun l => .inr ⟨rfl, by cases l <;> rfl⟩
  | r :: R => fun l => by
    simp only [dropF]
    rcases safe_drop r l with e | ⟨e, h⟩
    · rw [e, dropF_dead]; exact .inl rfl
    · rw [e]
      rcases safe_dropF R l with k | ⟨k, h'⟩
      · exact .inl k
      · exact .inr ⟨k, gone_cons h h'⟩
theorem safeO_offG (R : List Nat) : SafeO R (offG R) := fun o => offG_spec o
theorem dropRows_eq : ∀ {R : List Nat} {s : St}, s.dropRows R = ⟨mapSl (dropF R) (offG R) s.sl, mapBx (dropF R) s.bx, noneAt s.rw R⟩
  | [], s => by
    have h2 : ∀ l : List (Option Bx), mapBx (dropF []) l = l := fun l => by
      induction l with
      | nil => rfl
      | cons a r ih =>
        cases a with
        | none => simp only [mapBx, ih]
        | some v => simp only [mapBx, ih]; rw [show mapL (dropF []) v.ls = v.ls from mapL_id v.ls]
    have h1 : mapSl (dropF []) (offG []) s.sl = s.sl := mapSl_id s.sl
    simp only [St.dropRows, noneAt, h1, h2]
  | r :: R, s => by
    simp only [St.dropRows]
    rw [dropRows_eq]
    simp only [St.dropRow, St.mapLf, mapSl_comp, mapBx_comp, noneAt]
    rfl
/-- A new row in the place of the rows R, whose blocks may have been written. -/
theorem Sim.swapRow {s : St} {tm : Array Value} {w : World} {W : Wit} (hs : Sim E s tm w W) {R : List Nat} {row : Row} {w' : World} {v : Value} {B : List Nat}
    (hsize : w.heap.size ≤ w'.heap.size) (hheap : ∀ b, b < w.heap.size → (∀ r x, r ∈ R → s.row r = some x → b ∉ W.rb r) → w'.heap[b]? = w.heap[b]?) (hfr : Frame' E.May E.w0 w') (hrep : OwT E.By (.slice row.e row.t) w' B [v] row.xs) (hn : row.n = row.xs.length) (hB : B.Nodup)
    (hin : ∀ b, b ∈ B → w.heap.size ≤ b ∨ ∃ r x, r ∈ R ∧ s.row r = some x ∧ b ∈ W.rb r) :
    Sim E ((s.dropRows R).newRow row) tm w' (W.addRow s.rw.length v B) ∧ SVRep E ((s.dropRows R).newRow row).tb (W.addRow s.rw.length v B) w' (.one (.ref (llen s.rw))) v := by
  have hlt : ∀ q x, s.row q = some x → q < s.rw.length := fun q x h => lget_lt (l := s.rw) h
  let W' := W.addRow s.rw.length v B
  let tb' : Tb := ⟨mapBx (dropF R) s.bx, app (noneAt s.rw R) [some row]⟩
  have est : (s.dropRows R).newRow row = ⟨mapSl (dropF R) (offG R) s.sl, tb'.bx, tb'.rw⟩ := by rw [dropRows_eq]; rfl
  have hrow : ∀ q z, tb'.row q = some z → (q = s.rw.length ∧ z = row) ∨ (q ≠ s.rw.length ∧ q ∉ R ∧ s.tb.row q = some z) := by
    intro q z hz
    have hz : lget (app (noneAt s.rw R) [some row]) q = some z := hz
    rw [lget_app_new, noneAt_length, lget_noneAt] at hz
    split at hz
    · split at hz
      · cases hz
      · rename_i h1 h2; exact .inr ⟨by omega, h2, hz⟩
    · split at hz
      · rename_i e; cases hz; exact .inl ⟨e, rfl⟩
      · cases hz
  have hnew : tb'.row s.rw.length = some row := by
    show lget (app (noneAt s.rw R) [some row]) s.rw.length = _
    rw [lget_app_new, noneAt_length]; simp
  have hrbn : W'.rb s.rw.length = B := by simp [W', Wit.addRow]
  have hrbo : ∀ q, q ≠ s.rw.length → W'.rb q = W.rb q ∧ W'.rv q = W.rv q := fun q hq => by simp [W', Wit.addRow, hq]
  have ht : Touch R R s.tb W w tb' W' w' := by
    refine ⟨hsize, fun b hb hr _ => hheap b hb hr, fun o' z hz => ⟨?_, rfl⟩, fun o' z hz => ?_, fun q hq z hz => ?_, fun q z hq hz => ?_, fun q z hz => ?_⟩
    · refine ⟨⟨mapL (dropF R) z.ls, z.lk⟩, ?_⟩
      show lget (mapBx (dropF R) s.bx) o' = _
      rw [lget_mapBx, show lget s.bx o' = some z from hz]; rfl
    · obtain ⟨y, hy, _⟩ := lget_mapBx' (show lget (mapBx (dropF R) s.bx) o' = some z from hz)
      exact .inl ⟨y, hy⟩
    · have hq' : q ≠ s.rw.length := Nat.ne_of_lt (hlt q z hz)
      refine ⟨z, ?_, rfl, rfl, (hrbo q hq').2, fun b2 B2 e2 => ⟨B2, by rw [(hrbo q hq').1]; exact e2⟩⟩
      show lget (app (noneAt s.rw R) [some row]) q = _
      rw [lget_app_new, noneAt_length, if_pos (hlt q z hz), lget_noneAt, if_neg hq]; exact hz
    · have hq' : q ≠ s.rw.length := Nat.ne_of_lt (hlt q z hz)
      refine ⟨?_, (hrbo q hq').1, (hrbo q hq').2⟩
      show lget (app (noneAt s.rw R) [some row]) q = _
      rw [lget_app_new, noneAt_length, if_pos (hlt q z hz), lget_noneAt, if_neg hq]; exact hz
    · rcases hrow q z hz with ⟨rfl, rfl⟩ | ⟨h1, h2, h3⟩
      · right
        intro b hb
        rw [hrbn] at hb
        exact hin b hb
      · exact .inl ⟨h2, h3⟩
  have htb : TbRep E tb' w' W' := by
    refine tb_touch hs.tb ht (safe_dropF R) (fun o' z hz => ?_) (fun q z hz => ?_) (fun q z q' z' hz hz' hne => ?_) (fun o' z q z' hz hz' => ?_) (fun o' z o2 z2 hz hz2 hne => ?_) hfr
    · obtain ⟨y, hy, rfl⟩ := lget_mapBx' (show lget (mapBx (dropF R) s.bx) o' = some z from hz)
      exact .inl ⟨y, hy, rfl, hheap _ (Sim.lt_box hs.tb hy) fun r x _ hx => hs.tb.br o' y r x hy hx⟩
    · rcases hrow q z hz with ⟨rfl, rfl⟩ | ⟨h1, h2, h3⟩
      · right
        have erv : W'.rv s.rw.length = v := by simp [W', Wit.addRow]
        refine ⟨hn, by rw [hrbn, erv]; exact hrep, by rw [hrbn]; exact hB, fun b hb => ?_⟩
        rw [hrbn] at hb
        rcases hin b hb with h | ⟨r, x, hr, hx, hb⟩
        · intro j; left; have := hs.tb.frame.size; omega
        · exact (hs.tb.rows r x hx).mine b hb
      · exact .inl ⟨h2, h3⟩
    · rcases hrow q z hz with ⟨rfl, rfl⟩ | ⟨h1, h2, h3⟩
      · rcases hrow q' z' hz' with ⟨rfl, rfl⟩ | ⟨h1, h2, h3⟩
        · exact absurd rfl hne
        · exact .inr (.inl ⟨h2, h3⟩)
      · exact .inl ⟨h2, h3⟩
    · obtain ⟨y, hy, _⟩ := lget_mapBx' (show lget (mapBx (dropF R) s.bx) o' = some z from hz)
      exact .inl ⟨y, hy⟩
    · obtain ⟨y, hy, _⟩ := lget_mapBx' (show lget (mapBx (dropF R) s.bx) o' = some z from hz)
      exact .inl ⟨y, hy⟩
  constructor
  · rw [est]
    exact hs.touch (fun _ h => h) ht (safe_dropF R) (safeO_offG R) htb
  · have e2 : ((s.dropRows R).newRow row).tb = tb' := by rw [est]; rfl
    rw [e2, llen_eq]
    refine ⟨⟨⟨row, hnew⟩, by simp [Wit.addRow]⟩, ?_⟩
    rcases hrep with ⟨e, _⟩ | ⟨_, _, _, _, e, _⟩
    · simp only [List.cons.injEq, and_true] at e; rw [e]; rfl
    · simp only [List.cons.injEq, and_true] at e; rw [e]; rfl
end
end Go.Ri
/- Appending. -/
namespace Go.Ri
section
variable {E : Env} {P : Program} {T : List TE}

def lseg (cs : List Value) (i n : Nat) : List Value := (cs.drop (i * n)).take n
theorem lseg_len {cs : List Value} {i n m : Nat} (h : cs.length = m * n) (hi : i < m) : (lseg cs i n).length = n := by
  unfold lseg
  have := Nat.mul_le_mul_right n (show i + 1 ≤ m from hi)
  rw [Nat.succ_mul] at this
  simp only [List.length_take, List.length_drop]; omega
/-- a slice that is read, with all its cells -/
theorem vw_cells {By : TypeId → Nat} {w : World} {S : Nat → Prop} {e : TypeId} {t : Ty} {v : Value} {ys : List t.den} (h : VwT By (.slice e t) w S [v] ys) :
    ∃ A c news, v = .slice A ys.length c ∧ news.length = ys.length * t.sz ∧ (A = none → ys.length = 0) ∧ (∀ a, A = some a → CellsAt w a news) ∧ (∀ i, i < ys.length → VwT By t w S (lseg news i t.sz) (ys.getD i t.dflt)) ∧ ys.length ≤ room := by
  obtain ⟨A, n, c, hv, hl, hr, hn, hc⟩ := h
  simp only [List.cons.injEq, and_true] at hv
  subst hl
  by_cases h0 : ys.length = 0
  · refine ⟨A, c, [], hv, by simp [h0], fun _ => h0, fun a _ => ?_, fun i hi => by omega, hn.1⟩
    intro j v hv; simp at hv
  · obtain ⟨a, rfl, hS, hi⟩ := hc (by omega)
    let news : List Value := (List.range (ys.length * t.sz)).map fun k => (w.cell? (a.add k)).getD undef
    have hlen : news.length = ys.length * t.sz := by simp [news]
    have hat : ∀ i, i < ys.length → ∃ cs, cs.length = t.sz ∧ (∀ j, j < t.sz → w.cell? (a.add (i * t.sz + j)) = cs[j]?) ∧ VwT By t w S cs (ys.getD i t.dflt) := fun i h => by
      obtain ⟨cs, k1, k2, k3⟩ := hi i h
      refine ⟨cs, k1, fun j hj => ?_, k3⟩
      rw [← add_add]
      rw [List.getElem?_eq_getElem (by omega)]
      exact k2 j _ (List.getElem?_eq_getElem (by omega))
    have hget : ∀ k, k < ys.length * t.sz → news[k]? = some ((w.cell? (a.add k)).getD undef) := fun k hk => by
      simp [news, List.getElem?_map, List.getElem?_range hk]
    have hcell : ∀ i, i < ys.length → ∀ j, j < t.sz → ∀ cs : List Value, cs.length = t.sz → (∀ j, j < t.sz → w.cell? (a.add (i * t.sz + j)) = cs[j]?) → news[i * t.sz + j]? = cs[j]? := fun i hi j hj cs hcs hc => by
      have := Nat.mul_le_mul_right t.sz (show i + 1 ≤ ys.length from hi)
      rw [Nat.succ_mul] at this
      rw [hget _ (by omega), hc j hj, List.getElem?_eq_getElem (by omega)]; rfl
    refine ⟨some a, c, news, hv, hlen, (fun h => by cases h), fun a' ha => ?_, fun i hi => ?_, hn.1⟩
    · cases ha
      intro k v hk
      have hk' : k < ys.length * t.sz := by rw [← hlen]; exact (List.getElem?_eq_some_iff.1 hk).1
      have hz : 0 < t.sz := Nat.pos_of_ne_zero fun h => by rw [h] at hk'; omega
      obtain ⟨cs, k1, k2, _⟩ := hat (k / t.sz) ((Nat.div_lt_iff_lt_mul hz).2 hk')
      have hm := Nat.mod_lt k hz
      have := k2 (k % t.sz) hm
      rw [Nat.div_add_mod' k t.sz] at this
      rw [hget k hk', this, List.getElem?_eq_getElem (by omega)] at hk
      rw [this, List.getElem?_eq_getElem (by omega)]
      simpa using hk
    · obtain ⟨cs, k1, k2, k3⟩ := hat i hi
      have : lseg news i t.sz = cs := by
        apply List.ext_getElem?
        intro j
        unfold lseg
        simp only [List.getElem?_take, List.getElem?_drop]
        split
        · rename_i hj; exact hcell i hi j hj cs k1 k2
        · rename_i hj; rw [List.getElem?_eq_none (by omega)]
      rw [this]; exact k3
theorem flat_own {By : TypeId → Nat} : ∀ {t : Ty} {w w' : World} {S : Nat → Prop} {vs : List Value} {x : t.den}, t.flat = true → VwT By t w S vs x → OwT By t w' [] vs x
  | .int _, _, _, _, _, _, _, h => ⟨h.1, h.2, rfl⟩
  | .bool, _, _, _, _, _, _, h => ⟨h, rfl⟩
  | .str, _, _, _, _, _, _, h => ⟨h.1, h.2, rfl⟩
  | .unit, _, _, _, _, _, _, h => ⟨h, rfl⟩
  | .pair _ _, _, _, _, _, _, hf, h => by
    simp only [Ty.flat, Bool.and_eq_true] at hf
    exact ⟨[], [], rfl, flat_own hf.1 h.1, flat_own hf.2 h.2⟩
  | .slice _ _, _, _, _, _, _, hf, _ => by simp [Ty.flat] at hf
theorem owl_one {By : TypeId → Nat} {w : World} {B : List Nat} {v : Value} {l : LV} (h : OwL By w B v l) : v.oneCell' = true := by
  cases l with
  | int k z => obtain ⟨e, _⟩ := h; simp only [List.cons.injEq, and_true] at e; rw [e]; rfl
  | bool b => obtain ⟨e, _⟩ := h; simp only [List.cons.injEq, and_true] at e; rw [e]; rfl
  | str s => obtain ⟨e, _⟩ := h; simp only [List.cons.injEq, and_true] at e; rw [e]; rfl
  | sl e t xs =>
    rcases h with ⟨e, _⟩ | ⟨_, _, _, _, e, _⟩ <;> (simp only [List.cons.injEq, and_true] at e; rw [e]; rfl)
theorem owls_one {By : TypeId → Nat} {w : World} : ∀ {B : List Nat} {vs : List Value} {ls : List LV}, OwLs By w B vs ls → ∀ v ∈ vs, v.oneCell' = true
  | _, [], [], _, v, hv => by cases hv
  | _, u :: us, l :: ls, h, v, hv => by
    obtain ⟨_, _, _, h1, h2⟩ := h
    rcases List.mem_cons.1 hv with rfl | hv
    · exact owl_one h1
    · exact owls_one h2 v hv
  | _, [], _ :: _, h, _, _ => h.elim
  | _, _ :: _, [], h, _, _ => h.elim

/-- what is appended: cells, each element's blocks -/
structure News (By : TypeId → Nat) (w : World) (t : Ty) (v : Value) (ys : List t.den) (A : Option Addr) (c : Nat) (news : List Value) (Cs : List (List Nat)) : Prop where
  v : v = .slice A ys.length c
  len : news.length = ys.length * t.sz
  nil : A = none → ys.length = 0
  at' : ∀ a, A = some a → CellsAt w a news
  clen : Cs.length = ys.length
  own : ∀ i, i < ys.length → OwT By t w (Cs.getD i []) (lseg news i t.sz) (ys.getD i t.dflt)
theorem mem_of_seg {news : List Value} {n m : Nat} (h : news.length = m * n) {v : Value} (hv : v ∈ news) : ∃ i, i < m ∧ v ∈ lseg news i n := by
  obtain ⟨k, hk, rfl⟩ := List.mem_iff_getElem.1 hv
  have hz : 0 < n := Nat.pos_of_ne_zero fun e => by rw [e] at h; omega
  refine ⟨k / n, (Nat.div_lt_iff_lt_mul hz).2 (by omega), ?_⟩
  refine List.mem_of_getElem? (i := k % n) ?_
  unfold lseg
  simp only [List.getElem?_take, List.getElem?_drop]
  rw [if_pos (Nat.mod_lt k hz), Nat.div_add_mod' k n, List.getElem?_eq_getElem hk]
theorem News.one {By : TypeId → Nat} {w : World} {t : Ty} {v : Value} {ys : List t.den} {A : Option Addr} {c : Nat} {news : List Value} {Cs : List (List Nat)} (h : News By w t v ys A c news Cs) : ∀ u ∈ news, u.oneCell' = true := fun u hu => by
  obtain ⟨i, hi, hu⟩ := mem_of_seg h.len hu
  exact owls_one ((OwT_iff By).1 (h.own i hi)) u hu
theorem News.cells {By : TypeId → Nat} {w : World} {t : Ty} {v : Value} {ys : List t.den} {A : Option Addr} {c : Nat} {news : List Value} {Cs : List (List Nat)} (h : News By w t v ys A c news Cs) (n : Nat) :
    (Builtin.firstCells t.sz ys.length v).run P (if n = 0 then w else w.drew) = .ok news.toArray (if n = 0 then w else w.drew) := by
  rw [h.v]
  cases A with
  | none =>
    have := h.nil rfl
    have : news = [] := List.eq_nil_of_length_eq_zero (by rw [h.len, this]; simp)
    subst this
    rw [run_firstCells_none]
  | some a =>
    have := h.at' a rfl
    refine run_firstCells_some _ _ _ _ _ _ _ h.len fun j v hv => ?_
    have := this j v hv
    split
    · exact this
    · exact this
theorem getD_app {α : Type} (a b : List α) (i : Nat) (d : α) : (a ++ b).getD i d = if i < a.length then a.getD i d else b.getD (i - a.length) d := by
  simp only [List.getD_eq_getElem?_getD, List.getElem?_append]
  split <;> rfl
theorem lseg_app {a b : List Value} {i n m : Nat} (h : a.length = m * n) : lseg (a ++ b) i n = if i < m then lseg a i n else lseg b (i - m) n := by
  unfold lseg
  split
  · rename_i hi
    have := Nat.mul_le_mul_right n (show i + 1 ≤ m from hi)
    rw [Nat.succ_mul] at this
    rw [List.drop_append_of_le_length (by omega), List.take_append_of_le_length (by rw [List.length_drop]; omega)]
  · rename_i hi
    have : i * n = a.length + (i - m) * n := by rw [h, ← Nat.add_mul]; congr 1; omega
    rw [this, List.drop_append, List.drop_eq_nil_of_le (by omega), Nat.add_sub_cancel_left, List.nil_append]
end
end Go.Ri
/- Appending: the run. -/
namespace Go.Ri
section
variable {E : Env} {P : Program} {T : List TE}

/-- the row behind an append: elements -/
theorem own_app {By : TypeId → Nat} {w' : World} {t : Ty} {xs ys : List t.den} {olds news : List Value} {Bs Cs : List (List Nat)} (h1 : olds.length = xs.length * t.sz) (hB : Bs.length = xs.length)
    (k1 : ∀ i, i < xs.length → OwT By t w' (Bs.getD i []) (lseg olds i t.sz) (xs.getD i t.dflt)) (k2 : ∀ i, i < ys.length → OwT By t w' (Cs.getD i []) (lseg news i t.sz) (ys.getD i t.dflt)) :
    ∀ i, i < (xs ++ ys).length → OwT By t w' ((Bs ++ Cs).getD i []) (lseg (olds ++ news) i t.sz) ((xs ++ ys).getD i t.dflt) := fun i hi => by
  rw [List.length_append] at hi
  rw [getD_app, getD_app, lseg_app h1, hB]
  split
  · exact k1 i (by assumption)
  · exact k2 _ (by omega)
theorem lseg_pre {a b : List Value} {i n m : Nat} (h : a.length = m * n) (hi : i < m) : lseg (a ++ b) i n = lseg a i n := by rw [lseg_app h, if_pos hi]

theorem frame_drew {M : Nat → Nat → Prop} {w0 w : World} (h : Frame' M w0 w) : Frame' M w0 w.drew :=
  ⟨h.os, h.tape, h.output, h.size, fun b hb => h.keep b hb⟩
theorem app_nil_run {w : World} {t ty e : TypeId} {inf : TypeInfo} (ht : P.underlying t = some (.slice e)) (hi : P.info? e = some inf) (A : Option Addr) (c : Nat) :
    (Builtin.append_ #[t, t] ty #[.slice none 0 0, .slice A 0 c]).run P w = .ok (.slice none 0 0) w := by
  cases A with
  | none => simp [Builtin.append_, run_underlying ht, sizeOf, typeInfo, hi, Builtin.lenOf, Builtin.firstCells]
  | some a => simp [Builtin.append_, run_underlying ht, sizeOf, typeInfo, hi, Builtin.lenOf, Builtin.firstCells, loadCells, loadCellsFrom]
theorem app_room_run {w w' : World} {t ty e : TypeId} {inf : TypeInfo} (ht : P.underlying t = some (.slice e)) (hi : P.info? e = some inf) {b n cap m c : Nat} {A : Option Addr} {news : List Value}
    (hf : (Builtin.firstCells inf.size m (.slice A m c)).run P w = .ok news.toArray w) (hst : (storeCells ⟨b, n * inf.size, none⟩ news).run P w = .ok () w') (hroom : n + m ≤ cap) :
    (Builtin.append_ #[t, t] ty #[.slice (some ⟨b, 0, none⟩) n cap, .slice A m c]).run P w = .ok (.slice (some ⟨b, 0, none⟩) (n + m) cap) w' := by
  simp [Builtin.append_, run_underlying ht, sizeOf, typeInfo, hi, Builtin.lenOf, hroom, hf, Addr.add_lit, hst]
theorem mem_app_flatten {Bs Cs : List (List Nat)} {c : Nat} : c ∈ (Bs ++ Cs).flatten ↔ c ∈ Bs.flatten ∨ c ∈ Cs.flatten := by simp [List.flatten_append]
theorem run_app {By : TypeId → Nat} {w : World} {t ty e : TypeId} {y : Ty} {inf : TypeInfo} (ht : P.underlying t = some (.slice e)) (hi : P.info? e = some inf) (hc : CellsOk P e y) (hz : 0 < y.sz)
    {xs ys : List y.den} {B : List Nat} {v yv : Value} {A : Option Addr} {c : Nat} {news : List Value} {Cs : List (List Nat)} (hv : OwT By (.slice e y) w B [v] xs) (hn : News By w y yv ys A c news Cs) (hB : B.Nodup) (hCs : Cs.flatten.Nodup)
    (hd : ∀ b, b ∈ B → b ∉ Cs.flatten) (hCl : ∀ b, b ∈ Cs.flatten → b < w.heap.size) (hby : (xs.length + ys.length) * inf.bytes ≤ room) (hBy : By e = inf.bytes) (hpos : 0 < inf.bytes) :
    ∃ v' w' B', (Builtin.append_ #[t, t] ty #[v, yv]).run P w = .ok v' w' ∧ OwT By (.slice e y) w' B' [v'] (xs ++ ys) ∧ B'.Nodup ∧ (∀ b, b ∈ B' → w.heap.size ≤ b ∨ b ∈ B ∨ b ∈ Cs.flatten) ∧
      w.heap.size ≤ w'.heap.size ∧ (∀ b, b < w.heap.size → b ∉ B → w'.heap[b]? = w.heap[b]?) ∧ (∀ M w0, Frame' M w0 w → (∀ b, b ∈ B → ∀ j, w0.heap.size ≤ b ∨ M b j) → Frame' M w0 w') := by
  obtain ⟨i2, hi2, hsz, hzero⟩ := hc.info
  rw [hi] at hi2; cases hi2
  have hnn : xs.length + ys.length ≤ room := Nat.le_trans (Nat.le_mul_of_pos_right _ hpos) hby
  have hzs : (mkV y.isPair y.zeroC).cells.size = inf.size := by
    rw [← Array.length_toList, mkV_cells (fun h => by rw [zeroC_len]; exact isPair_sz h (by omega)) (zeroC_one _), zeroC_len, hsz]
  have hlen : news.length = ys.length * inf.size := by rw [hsz]; exact hn.len
  -- a new block out of olds and news
  have grown : ∀ (cs : Array Value) (g : Nat) (Bs : List (List Nat)) (olds rest : List Value), cs.toList = olds ++ news ++ rest → olds.length = xs.length * y.sz → cs.size = g * y.sz → xs.length + ys.length ≤ g → Bs.length = xs.length → Bs.flatten.Nodup →
      (∀ b, b ∈ Bs.flatten → b ∈ B) → (∀ i, i < xs.length → OwT By y w (Bs.getD i []) (lseg olds i y.sz) (xs.getD i y.dflt)) →
      OwT By (.slice e y) (Wd.alloc w.drew (.cells cs e (0, 0))) (w.heap.size :: (Bs ++ Cs).flatten) [.slice (some ⟨w.heap.size, 0, none⟩) (xs.length + ys.length) g] (xs ++ ys) ∧ (w.heap.size :: (Bs ++ Cs).flatten).Nodup ∧
      (∀ b, b ∈ w.heap.size :: (Bs ++ Cs).flatten → w.heap.size ≤ b ∨ b ∈ B ∨ b ∈ Cs.flatten) ∧ w.heap.size ≤ (Wd.alloc w.drew (.cells cs e (0, 0))).heap.size ∧ (∀ b, b < w.heap.size → b ∉ B → (Wd.alloc w.drew (.cells cs e (0, 0))).heap[b]? = w.heap[b]?) ∧
      (∀ M w0, Frame' M w0 w → (∀ b, b ∈ B → ∀ j, w0.heap.size ≤ b ∨ M b j) → Frame' M w0 (Wd.alloc w.drew (.cells cs e (0, 0)))) := by
    intro cs g Bs olds rest e1 e2 e3 e4 e5 e6 e7 e8
    have hold : ∀ b, b < w.heap.size → (Wd.alloc w.drew (.cells cs e (0, 0))).heap[b]? = w.heap[b]? := fun b hb => alloc_old w.drew _ hb
    have hBlt : ∀ b, b ∈ B → b < w.heap.size := OwT.lt By hv
    refine ⟨.inr ⟨w.heap.size, g, cs, Bs ++ Cs, by rw [List.length_append], alloc_new w.drew _, e3, by rw [List.length_append]; exact e4, by rw [List.length_append, hBy]; exact hby, by rw [List.length_append]; exact hnn, rfl, by rw [List.length_append, List.length_append, e5, hn.clen], fun i hi => ?_⟩, ?_, fun b hb => ?_, by simp [Wd.alloc], fun b hb _ => hold b hb, fun M w0 hf _ => frame_alloc (frame_drew hf) _⟩
    · have := own_app (w' := w) (By := By) e2 e5 e8 hn.own i hi
      have hseg : seg cs i y.sz = lseg (olds ++ news) i y.sz := by
        unfold seg; rw [e1]
        exact lseg_pre (m := xs.length + ys.length) (by rw [List.length_append, e2, hn.len, ← Nat.add_mul]) (by rw [List.length_append] at hi; exact hi)
      rw [hseg]
      refine OwT.frame By this fun b hb => hold b ?_
      rcases mem_app_flatten.1 (mem_flatten_getD hb) with h | h
      · exact hBlt b (e7 b h)
      · exact hCl b h
    · rw [List.flatten_append]
      refine List.nodup_cons.2 ⟨fun h => ?_, List.nodup_append.2 ⟨e6, hCs, fun a ha b hb e => hd a (e7 a ha) (e ▸ hb)⟩⟩
      rcases List.mem_append.1 h with h | h
      · exact Nat.lt_irrefl _ (hBlt _ (e7 _ h))
      · exact Nat.lt_irrefl _ (hCl _ h)
    · rcases List.mem_cons.1 hb with rfl | hb
      · exact .inl (Nat.le_refl _)
      · rcases mem_app_flatten.1 hb with h | h
        · exact .inr (.inl (e7 b h))
        · exact .inr (.inr h)
  have hv0 := hv
  rcases hv with ⟨hv, rfl, rfl⟩ | ⟨b, cap, cs, Bs, hv, hh, hcs, hcap, hb1, hb2, rfl, hBl, hel⟩
  · simp only [List.cons.injEq, and_true] at hv
    subst hv
    by_cases h0 : ys.length = 0
    · have : ys = [] := List.eq_nil_of_length_eq_zero h0
      subst this
      refine ⟨.slice none 0 0, w, [], ?_, .inl ⟨rfl, rfl, rfl⟩, by simp, by simp, Nat.le_refl _, fun _ _ _ => rfl, fun _ _ h _ => h⟩
      rw [hn.v]; exact app_nil_run ht hi A c
    · cases hA : A with
      | none => exact absurd (hn.nil hA) h0
      | some a =>
        subst hA
        simp only [List.length_nil, Nat.zero_add, List.nil_append] at hby hnn grown ⊢
        have hr := run_append_nil (P := P) w t ty e inf _ ht hi hzero a ys.length c news hlen (hn.at' a rfl) (by omega) (by unfold room at hnn; omega) (by unfold room at hby; omega)
        have hge := grownCap_ge w ys.length 0 e
        obtain ⟨g1, g2, g3, g4, g5, g6⟩ := grown (news.toArray ++ Builtin.zeroCells (mkV y.isPair y.zeroC).cells (grownCap w ys.length 0 e - ys.length)) (grownCap w ys.length 0 e) [] [] (Builtin.zeroCells (mkV y.isPair y.zeroC).cells (grownCap w ys.length 0 e - ys.length)).toList (by simp) (by simp)
          (by rw [Array.size_append, List.size_toArray, size_zeroCells, hzs, hlen, hsz, ← Nat.add_mul]; congr 1; omega) hge rfl (by simp) (by simp) (fun i hi => by simp at hi)
        refine ⟨_, _, _, ?_, g1, g2, g3, g4, g5, g6⟩
        rw [hn.v]; exact hr
  · simp only [List.cons.injEq, and_true] at hv
    subst hv
    have hL : cs.toList.length = cap * y.sz := by rw [← hcs]; exact Array.length_toList
    by_cases hroom : xs.length + ys.length ≤ cap
    · have hsum := Nat.mul_le_mul_right y.sz hroom
      rw [Nat.add_mul] at hsum
      have hfc := hn.cells (P := P) 0
      rw [if_pos rfl, hn.v, ← hsz] at hfc
      obtain ⟨w', r1, r2, r3⟩ := run_storeCells (P := P) (b := b) (off := xs.length * y.sz) (e := e) news 0 w cs hh (by rw [Nat.add_zero, hn.len, hcs]; exact hsum) hn.one
      rw [Nat.add_zero] at r2
      have hbn := (List.nodup_cons.1 hB).1
      have hwr : (wrC cs (xs.length * y.sz) news).toList = (cs.toList.take (xs.length * y.sz) ++ news) ++ cs.toList.drop (xs.length * y.sz + news.length) := by
        have := wr_cut (cs := cs) (o := 0) (n := cs.size) (j := xs.length * y.sz) (m := news.length) (vs := news) (by omega) (by rw [hn.len, hcs]; exact hsum) rfl
        rw [Nat.zero_add, List.drop_zero, List.drop_zero, List.take_of_length_le (l := (wrC cs (xs.length * y.sz) news).toList) (Nat.le_of_eq (Array.length_toList.trans (wrC_size ..))), List.take_of_length_le (l := cs.toList) (Nat.le_of_eq Array.length_toList)] at this
        rw [this, List.append_assoc]
      have holds : (cs.toList.take (xs.length * y.sz)).length = xs.length * y.sz := by
        rw [List.length_take, hL]; omega
      have hoth : ∀ c, c ≠ b → w'.heap[c]? = w.heap[c]? := r3.heap
      have hels := own_app (w' := w') (By := By) (olds := cs.toList.take (xs.length * y.sz)) (news := news) holds hBl (fun i hi => by
          have := hel i hi
          rw [show seg cs i y.sz = lseg (cs.toList.take (xs.length * y.sz)) i y.sz from ?_] at this
          · exact OwT.frame By this fun c hc => hoth c fun e => hbn (e ▸ mem_flatten_getD hc)
          · unfold seg
            conv => lhs; rw [← List.take_append_drop (xs.length * y.sz) cs.toList]
            exact lseg_pre holds hi) (fun i hi => OwT.frame By (hn.own i hi) fun c hc => hoth c fun e => hd b (List.mem_cons_self ..) (e ▸ mem_flatten_getD hc))
      refine ⟨.slice (some ⟨b, 0, none⟩) (xs.length + ys.length) cap, w', b :: (Bs ++ Cs).flatten, ?_, .inr ⟨b, cap, _, Bs ++ Cs, by rw [List.length_append], r2, by rw [wrC_size]; exact hcs, by rw [List.length_append]; exact hroom, by rw [List.length_append, hBy]; exact hby, by rw [List.length_append]; exact hnn, rfl, by rw [List.length_append, List.length_append, hBl, hn.clen], fun i hi => ?_⟩, ?_, fun c hc => ?_, by rw [r3.size]; exact Nat.le_refl _, fun c _ hc => hoth c fun e => hc (by rw [e]; exact List.mem_cons_self ..), fun M w0 hf hm => frame_same hf r3 hh r2 (wrC_size ..) fun j => .inl (hm b (List.mem_cons_self ..) j)⟩
      · rw [hn.v]; exact app_room_run ht hi hfc (by rw [hsz]; exact r1) hroom
      · have hseg : seg (wrC cs (xs.length * y.sz) news) i y.sz = lseg (cs.toList.take (xs.length * y.sz) ++ news) i y.sz := by
          unfold seg; rw [hwr]
          exact lseg_pre (m := xs.length + ys.length) (by rw [List.length_append, holds, hn.len, ← Nat.add_mul]) (by rw [List.length_append] at hi; exact hi)
        rw [hseg]; exact hels i hi
      · rw [List.flatten_append]
        refine List.nodup_cons.2 ⟨fun h => ?_, List.nodup_append.2 ⟨(List.nodup_cons.1 hB).2, hCs, fun a ha b' hb' e => hd a (List.mem_cons_of_mem _ ha) (e ▸ hb')⟩⟩
        rcases List.mem_append.1 h with h | h
        · exact hbn h
        · exact hd b (List.mem_cons_self ..) h
      · rcases List.mem_cons.1 hc with rfl | hc
        · exact .inr (.inl (List.mem_cons_self ..))
        · rcases mem_app_flatten.1 hc with h | h
          · exact .inr (.inl (List.mem_cons_of_mem _ h))
          · exact .inr (.inr h)
    · cases hA : A with
      | none => have := hn.nil hA; omega
      | some a =>
        subst hA
        have holds : (cs.toList.take (xs.length * y.sz)).length = xs.length * y.sz := by
          have := Nat.mul_le_mul_right y.sz hcap
          rw [List.length_take, hL]; omega
        have hr := run_append_grow (P := P) w t ty e inf _ ht hi hzero ⟨b, 0, none⟩ xs.length cap (cs.toList.take (xs.length * y.sz)) (by rw [holds, hsz]) (fun j u hu => ?_) a ys.length c news hlen (hn.at' a rfl) (by omega) (by unfold room at hnn; omega) (growslice_fits (by omega) hby)
        · have hge := grownCap_ge w (xs.length + ys.length) cap e
          obtain ⟨g1, g2, g3, g4, g5, g6⟩ := grown ((cs.toList.take (xs.length * y.sz)).toArray ++ news.toArray ++ Builtin.zeroCells (mkV y.isPair y.zeroC).cells (grownCap w (xs.length + ys.length) cap e - (xs.length + ys.length))) (grownCap w (xs.length + ys.length) cap e) Bs (cs.toList.take (xs.length * y.sz)) (Builtin.zeroCells (mkV y.isPair y.zeroC).cells (grownCap w (xs.length + ys.length) cap e - (xs.length + ys.length))).toList (by simp) holds
            (by rw [Array.size_append, Array.size_append, List.size_toArray, List.size_toArray, size_zeroCells, hzs, holds, hlen, hsz, ← Nat.add_mul, ← Nat.add_mul]; congr 1; omega) hge hBl (List.nodup_cons.1 hB).2 (fun b hb => List.mem_cons_of_mem _ hb) (fun i hi => by
              have := hel i hi
              rwa [show seg cs i y.sz = lseg (cs.toList.take (xs.length * y.sz)) i y.sz from ?_] at this
              unfold seg
              conv => lhs; rw [← List.take_append_drop (xs.length * y.sz) cs.toList]
              exact lseg_pre holds hi)
          refine ⟨_, _, _, ?_, g1, g2, g3, g4, g5, g6⟩
          rw [hn.v]; exact hr
        · rw [List.getElem?_take] at hu
          split at hu
          · rw [add_plain', cells_of_heap hh, ← Array.getElem?_toList]; exact hu
          · cases hu
end
end Go.Ri
/- Appending and making: the operations. -/
namespace Go.Ri
section
variable {E : Env} {P : Program} {T : List TE}

theorem News.ofVw {By : TypeId → Nat} {w : World} {S : Nat → Prop} {e : TypeId} {t : Ty} {v : Value} {ys : List t.den} (hf : t.flat = true) (h : VwT By (.slice e t) w S [v] ys) :
    ∃ A c news Cs, News By w t v ys A c news Cs ∧ Cs.flatten = [] := by
  obtain ⟨A, c, news, h1, h2, h3, h4, h5, h6⟩ := vw_cells h
  refine ⟨A, c, news, List.replicate ys.length [], ⟨h1, h2, h3, h4, by simp, fun i hi => ?_⟩, by simp⟩
  have : (List.replicate ys.length ([] : List Nat)).getD i [] = [] := by
    simp [List.getD_eq_getElem?_getD, List.getElem?_replicate, hi]
  rw [this]
  exact flat_own hf (h5 i hi)
theorem News.ofOwn {By : TypeId → Nat} {w : World} {e : TypeId} {t : Ty} {v : Value} {ys : List t.den} {B : List Nat} (h : OwT By (.slice e t) w B [v] ys) :
    ∃ A c news Cs, News By w t v ys A c news Cs ∧ (∀ b, b ∈ Cs.flatten → b ∈ B) ∧ (B.Nodup → Cs.flatten.Nodup) := by
  rcases h with ⟨hv, rfl, rfl⟩ | ⟨b, cap, cs, Bs, hv, hh, hcs, hcap, hb1, hb2, rfl, hBl, hel⟩
  · simp only [List.cons.injEq, and_true] at hv
    exact ⟨none, 0, [], [], ⟨hv, by simp, fun _ => rfl, (fun a h => by cases h), rfl, fun i hi => by simp at hi⟩, by simp, by simp⟩
  · simp only [List.cons.injEq, and_true] at hv
    have hL : cs.toList.length = cap * t.sz := by rw [← hcs]; exact Array.length_toList
    have holds : (cs.toList.take (ys.length * t.sz)).length = ys.length * t.sz := by
      have := Nat.mul_le_mul_right t.sz hcap
      rw [List.length_take, hL]; omega
    refine ⟨some ⟨b, 0, none⟩, cap, cs.toList.take (ys.length * t.sz), Bs, ⟨hv, holds, (fun h => by cases h), fun a ha j u hu => ?_, hBl, fun i hi => ?_⟩, fun c hc => List.mem_cons_of_mem _ hc, fun h => (List.nodup_cons.1 h).2⟩
    · cases ha
      rw [List.getElem?_take] at hu
      split at hu
      · rw [add_plain', cells_of_heap hh, ← Array.getElem?_toList]; exact hu
      · cases hu
    · have := hel i hi
      rwa [show seg cs i t.sz = lseg (cs.toList.take (ys.length * t.sz)) i t.sz from ?_] at this
      unfold seg
      conv => lhs; rw [← List.take_append_drop (ys.length * t.sz) cs.toList]
      exact lseg_pre holds hi

theorem app_sim (hT : TOk P T) (hBy : ∀ e, E.By e = (te T e).bytes) {s : St} {tm : Array Value} {w : World} {W : Wit} (hs : Sim E s tm w W) {R : List Nat} {t ty e : TypeId} {y : Ty} (hd : (te T t).d = .sl e y) {xs ys zs : List y.den} {n : Nat} {B : List Nat} {v yv : Value} {A : Option Addr} {c : Nat} {news : List Value} {Cs : List (List Nat)}
    (hv : OwT E.By (.slice e y) w B [v] xs) (hn : News E.By w y yv ys A c news Cs) (hB : B.Nodup) (hCs : Cs.flatten.Nodup) (hdis : ∀ b, b ∈ B → b ∉ Cs.flatten) (hfrom : ∀ b, b ∈ B ∨ b ∈ Cs.flatten → ∃ r x, r ∈ R ∧ s.row r = some x ∧ b ∈ W.rb r)
    (hby : (xs.length + ys.length) * (te T e).bytes ≤ room) (hz : zs = xs ++ ys) (hnn : n = zs.length) :
    ∃ v' w' W', (Builtin.append_ #[t, t] ty #[v, yv]).run P w = .ok v' w' ∧ Sim E ((s.dropRows R).newRow ⟨e, y, n, zs⟩) tm w' W' ∧ SVRep E ((s.dropRows R).newRow ⟨e, y, n, zs⟩).tb W' w' (.one (.ref (llen s.rw))) v' := by
  obtain ⟨h1, h2, h3, inf, h4, h5, h6⟩ := sl_ent hT hd
  obtain ⟨v', w', B', r1, r2, r3, r4, r5, r6, r7⟩ := run_app (ty := ty) h1 h4 h2 h3 hv hn hB hCs hdis (fun b hb => by
    obtain ⟨r, x, _, hx, hb⟩ := hfrom b (.inr hb)
    exact Sim.lt_row hs.tb hx hb) (by rw [h5]; exact hby) (by rw [hBy, h5]) h6
  have hfr := r7 E.May E.w0 hs.tb.frame fun b hb j => by
    obtain ⟨r, x, _, hx, hb⟩ := hfrom b (.inl hb)
    exact (hs.tb.rows r x hx).mine b hb j
  have := hs.swapRow (R := R) (row := ⟨e, y, n, zs⟩) r5 (fun b hb hr => r6 b hb fun hbB => by
    obtain ⟨r, x, h1, hx, hb⟩ := hfrom b (.inl hbB)
    exact hr r x h1 hx hb) hfr (by rw [hz]; exact r2) hnn r3 fun b hb => by
      rcases r4 b hb with h | h | h
      · exact .inl h
      · exact .inr (hfrom b (.inl h))
      · exact .inr (hfrom b (.inr h))
  exact ⟨v', w', _, r1, this⟩

theorem exec_append (o : Oper) {x z : Operand} {t : TypeId} (e : o.op = .call { callee := .builtin .append, args := #[x, z], argTypes := #[t, t] }) (ρ : Operand → Value) {w w' : World} {v' : Value} (h : (Builtin.append_ #[t, t] o.type #[ρ x, ρ z]).run P w = .ok v' w') :
    (execOp ρ o).run P w = .ok (.value v') w' := by
  refine exec_builtin o e ρ fun cs => ?_
  simp [builtin, h, Result.andThen]
theorem castL_rfl {a : Ty} (h : a = a) (xs : List a.den) : castL h xs = xs := rfl
theorem op_append (hT : TOk P T) (hBy : ∀ e, E.By e = (te T e).bytes) {s s' : St} {o : Oper} {x z : Operand} {t : TypeId} (e : o.op = .call { callee := .builtin .append, args := #[x, z], argTypes := #[t, t] }) (hx : okOperand x = true) (hz : okOperand z = true) {y y' : Ty} {a b : Lf}
    (h1 : evl s y x = some a) (h2 : evl s y' z = some b) (h : (doAppend T s o.dst (te T t).d a b).opt = some s') : OpOk E P o s s' := by
  unfold doAppend at h
  split at h
  rotate_left
  · cases h
  rename_i td et yt ye ut m ys rs hd hr
  split at h
  rotate_left
  · cases h
  rename_i hty
  obtain rfl := Ty.beq_eq hty
  split at h
  rotate_left
  · cases h
  rename_i hye
  obtain rfl := Nat.eq_of_beq_eq_true hye
  rw [castL_rfl] at h
  -- what is read
  have rd := fun (aa : Act) (w : World) (W : Wit) (hs : Sim E s aa.tmps w W) => rdS_slice hr rfl hs.tb (evl_rep h2 hz hs).1
  simp only at rd
  have rows : ∀ q, b = .ref q → ∃ u, s.row q = some u ∧ (⟨u.e, u.t, u.n, u.xs, [q]⟩ : Rd) = ⟨ye, ut, m, ys, rs⟩ := by
    rintro q rfl
    simp only [St.rdS] at hr
    split at hr
    · rename_i u hu; exact ⟨u, hu, by simpa using hr⟩
    · cases hr
  split at h
  · -- nil
    rename_i e' t'
    split at h
    rotate_left
    · cases h
    rename_i hnil
    simp only [Bool.and_eq_true] at hnil
    split at h
    · rename_i hflat
      cases h
      refine OpOk.step fun aa w W hs => ?_
      obtain ⟨hm, hvw⟩ := rd aa w W hs
      obtain ⟨hv, _⟩ := evl_rep h1 hx hs
      have hv : aa.eval x = .slice none 0 0 := hv
      obtain ⟨A, c, news, Cs, hn, hC⟩ := News.ofVw hflat hvw
      have hroom : ys.length * (te T ye).bytes ≤ room := by
        obtain ⟨_, _, _, _, k, hr, _⟩ := hvw
        rw [← k, hBy] at hr; exact hr
      obtain ⟨v', w', W', r1, r2, r3⟩ := app_sim (ty := o.type) (R := []) (xs := []) (zs := ys) (n := m) hT hBy hs hd (v := aa.eval x) (.inl ⟨by rw [hv], rfl, rfl⟩) hn (by simp) (by rw [hC]; simp) (by simp) (by rw [hC]; simp) (by simpa using hroom) rfl hm
      exact ⟨v', w', W', exec_append o e _ r1, r2, r3⟩
    · split at h
      rotate_left
      · cases h
      rename_i q
      cases h
      obtain ⟨u, hu, hur⟩ := rows q rfl
      cases hur
      refine OpOk.step fun aa w W hs => ?_
      obtain ⟨hv, _⟩ := evl_rep h1 hx hs
      have hv : aa.eval x = .slice none 0 0 := hv
      obtain ⟨⟨_, hzv⟩, _⟩ := evl_rep h2 hz hs
      have hrw := hs.tb.rows q u hu
      have hown : OwT E.By (.slice u.e u.t) w (W.rb q) [aa.eval z] u.xs := by rw [hzv]; exact hrw.own
      obtain ⟨A, c, news, Cs, hn, hC, hCn⟩ := News.ofOwn hown
      have hroom : u.xs.length * (te T u.e).bytes ≤ room := by
        obtain ⟨_, _, _, _, k, hr, _⟩ := (rd aa w W hs).2
        rw [← k, hBy] at hr; exact hr
      obtain ⟨v', w', W', r1, r2, r3⟩ := app_sim (ty := o.type) (R := [q]) (xs := []) (zs := u.xs) (n := u.n) hT hBy hs hd (v := aa.eval x) (.inl ⟨by rw [hv], rfl, rfl⟩) hn (by simp) (hCn hrw.nodup) (by simp) (fun b hb => ⟨q, u, by simp, hu, hb.elim (fun h => nomatch h) (hC b)⟩) (by simpa using hroom) rfl hrw.n
      exact ⟨v', w', W', exec_append o e _ r1, r2, r3⟩
  · -- own
    rename_i r
    cases hr0 : s.row r with
    | none => rw [hr0] at h; cases h
    | some w0 =>
    rw [hr0] at h
    simp only at h
    split at h
    rotate_left
    · cases h
    rename_i hty2
    obtain ⟨we, wt, wn, wxs⟩ := w0
    obtain rfl := Ty.beq_eq hty2
    split at h
    rotate_left
    · cases h
    rename_i hwe
    obtain rfl := Nat.eq_of_beq_eq_true hwe
    simp only [castL_rfl] at h
    split at h
    · rename_i hflat
      simp only [Eff.opt] at h
      split at h
      rotate_left
      · cases h
      rename_i hroom
      cases h
      have hroom := of_decide_eq_true hroom
      refine OpOk.step fun aa w W hs => ?_
      obtain ⟨hm, hvw⟩ := rd aa w W hs
      obtain ⟨⟨_, hv⟩, _⟩ := evl_rep h1 hx hs
      have hrw := hs.tb.rows r _ hr0
      have hown : OwT E.By (.slice we wt) w (W.rb r) [aa.eval x] wxs := by rw [hv]; exact hrw.own
      obtain ⟨A, c, news, Cs, hn, hC⟩ := News.ofVw hflat hvw
      have hwn : wn = wxs.length := hrw.n
      obtain ⟨v', w', W', r1, r2, r3⟩ := app_sim (ty := o.type) (R := [r]) (xs := wxs) (zs := wxs ++ ys) (n := wn + m) hT hBy hs hd hown hn hrw.nodup (by rw [hC]; simp) (by rw [hC]; simp) (fun b hb => ⟨r, _, by simp, hr0, hb.elim id (fun h => by rw [hC] at h; cases h)⟩) (by rw [← hwn, ← hm]; exact hroom) rfl (by rw [List.length_append, hwn, hm])
      exact ⟨v', w', W', exec_append o e _ r1, r2, r3⟩
    · split at h
      rotate_left
      · cases h
      rename_i q
      split at h
      · cases h
      rename_i hqr
      simp only [Eff.opt] at h
      split at h
      rotate_left
      · cases h
      rename_i hroom
      cases h
      replace hroom := of_decide_eq_true hroom
      have hqr : q ≠ r := fun e => hqr (by rw [e]; exact Nat.beq_refl r)
      obtain ⟨u, hu, hur⟩ := rows q rfl
      cases hur
      refine OpOk.step fun aa w W hs => ?_
      obtain ⟨⟨_, hv⟩, _⟩ := evl_rep h1 hx hs
      obtain ⟨⟨_, hzv⟩, _⟩ := evl_rep h2 hz hs
      have hrr := hs.tb.rows r _ hr0
      have hrq := hs.tb.rows q u hu
      have hownr : OwT E.By (.slice u.e u.t) w (W.rb r) [aa.eval x] wxs := by rw [hv]; exact hrr.own
      have hownq : OwT E.By (.slice u.e u.t) w (W.rb q) [aa.eval z] u.xs := by rw [hzv]; exact hrq.own
      obtain ⟨A, c, news, Cs, hn, hC, hCn⟩ := News.ofOwn hownq
      have hwn : wn = wxs.length := hrr.n
      have hun : u.n = u.xs.length := hrq.n
      obtain ⟨v', w', W', r1, r2, r3⟩ := app_sim (ty := o.type) (R := [r, q]) (xs := wxs) (zs := wxs ++ u.xs) (n := wn + u.n) hT hBy hs hd hownr hn hrr.nodup (hCn hrq.nodup) (fun b hb hb' => hs.tb.rr r _ q u hr0 hu (Ne.symm hqr) b hb (hC b hb')) (fun b hb => hb.elim (fun h => ⟨r, _, by simp, hr0, h⟩) (fun h => ⟨q, u, by simp, hu, hC b h⟩)) (by rw [← hwn, ← hun]; exact hroom) rfl (by rw [List.length_append, hwn, hun])
      exact ⟨v', w', W', exec_append o e _ r1, r2, r3⟩
  · cases h
end
end Go.Ri
/- Making and building slices. -/
namespace Go.Ri
section
variable {E : Env} {P : Program} {T : List TE}

theorem zero_own {By : TypeId → Nat} {w : World} : ∀ (t : Ty), OwT By t w [] t.zeroC t.dflt
  | .int k => ⟨rfl, inK_zero k, rfl⟩
  | .bool => ⟨rfl, rfl⟩
  | .str => ⟨rfl, by decide, rfl⟩
  | .unit => ⟨rfl, rfl⟩
  | .slice _ _ => .inl ⟨rfl, rfl, rfl⟩
  | .pair a b => by
    refine ⟨[], [], rfl, ?_, ?_⟩
    · have := zero_own (By := By) (w := w) a
      simp only [Ty.zeroC]
      rwa [List.take_append_of_le_length (by rw [zeroC_len]; exact Nat.le_refl _), List.take_of_length_le (by rw [zeroC_len]; exact Nat.le_refl _)]
    · have := zero_own (By := By) (w := w) b
      simp only [Ty.zeroC]
      rwa [List.drop_append_of_le_length (by rw [zeroC_len]; exact Nat.le_refl _), List.drop_eq_nil_of_le (by rw [zeroC_len]; exact Nat.le_refl _), List.nil_append]
/-- cells of n zero elements -/
def zeroA (z : Array Value) (m : Nat) : Array Value := (Array.range m).map (z[· % z.size]!)
theorem zeroA_size (z : Array Value) (m : Nat) : (zeroA z m).size = m := by simp [zeroA]
theorem zeroA_seg {z : Array Value} {n i : Nat} (hi : i < n) (hz : 0 < z.size) : seg (zeroA z (n * z.size)) i z.size = z.toList := by
  have hm := Nat.mul_le_mul_right z.size (show i + 1 ≤ n from hi)
  rw [Nat.succ_mul] at hm
  apply List.ext_getElem?
  intro j
  unfold seg
  simp only [List.getElem?_take, List.getElem?_drop]
  split
  · rename_i hj
    have e : (i * z.size + j) % z.size = j := by rw [Nat.mul_comm, Nat.mul_add_mod]; exact Nat.mod_eq_of_lt hj
    rw [Array.getElem?_toList, Array.getElem?_toList]
    simp only [zeroA, Array.getElem?_map, Array.getElem?_range]
    rw [if_pos (by omega)]
    simp only [Option.map_some, e]
    rw [Array.getElem?_eq_getElem hj, getElem!_pos z j hj]
  · rename_i hj
    rw [List.getElem?_eq_none (by rw [Array.length_toList]; omega)]
theorem mkV_size {e : TypeId} {y : Ty} (hz : 0 < y.sz) : (mkV y.isPair y.zeroC).cells.toList = y.zeroC ∧ (mkV y.isPair y.zeroC).cells.size = y.sz := by
  have h : (mkV y.isPair y.zeroC).cells.toList = y.zeroC := mkV_cells (fun h => by rw [zeroC_len]; exact isPair_sz h (by omega)) (zeroC_one _)
  exact ⟨h, by rw [← Array.length_toList, h, zeroC_len]⟩
theorem zeroEls_own {By : TypeId → Nat} {w : World} {y : Ty} (hz : 0 < y.sz) {n i : Nat} (hi : i < n) : OwT By y w [] (seg (zeroA (mkV y.isPair y.zeroC).cells (n * y.sz)) i y.sz) y.dflt := by
  obtain ⟨h1, h2⟩ := mkV_size (e := 0) hz
  have := zeroA_seg (z := (mkV y.isPair y.zeroC).cells) hi (by omega)
  rw [h2] at this
  rw [this, h1]; exact zero_own y
theorem i64_wrap {n : Int} (h0 : 0 ≤ n) (h1 : n ≤ 140737488355328) : IntKind.i64.wrap n = n := by
  rw [IntKind.wrap_i64]; omega
theorem run_makeSlice {w : World} {t e : TypeId} {y : Ty} {inf : TypeInfo} (ht : P.underlying t = some (.slice e)) (hi : P.info? e = some inf) (hc : CellsOk P e y) (hz : 0 < y.sz) {k k' : IntKind} {n : Int} (h0 : 0 ≤ n) (hb : n.toNat * inf.bytes ≤ room) (hpos : 0 < inf.bytes) :
    (Instr.makeSlice t (.int k n) (.int k' n)).run P w = .ok (.slice (some ⟨w.heap.size, 0, none⟩) n.toNat n.toNat) (Wd.alloc w (.cells (zeroA (mkV y.isPair y.zeroC).cells (n.toNat * y.sz)) e (0, 0))) := by
  obtain ⟨i2, hi2, hsz, hzero⟩ := hc.info
  rw [hi] at hi2; cases hi2
  have hn : n.toNat ≤ room := Nat.le_trans (Nat.le_mul_of_pos_right _ hpos) hb
  unfold room at hb hn
  have hw := i64_wrap h0 (by omega)
  have hbi : ¬ ((inf.bytes : Int) * n > 2 ^ 48) := by
    have : ((n.toNat * inf.bytes : Nat) : Int) = (inf.bytes : Int) * n := by rw [Int.natCast_mul, Int.toNat_of_nonneg h0, Int.mul_comm]
    omega
  have hbi3 : ¬ (281474976710656 < (inf.bytes : Int) * n) := by omega
  have hbi2 : ¬ (n < 0 ∨ 2 ^ 48 < (inf.bytes : Int) * n) := by omega
  have h2 := (mkV_size (e := e) hz).2
  have hA : ∀ k, (asInt (.int k n)).run P w = .ok n w := fun k => by simp [asInt, asIntOf, Result.andThen]
  have hT' : (typeInfo e).run P w = .ok inf w := by simp [typeInfo, hi]
  have hS : (sizeOf e).run P w = .ok y.sz w := run_sizeOf hc
  have hZ : (zeroValue e).run P w = .ok (mkV y.isPair y.zeroC) w := run_zero hc
  unfold Instr.makeSlice
  simp [run_underlying ht, Result.andThen, hA, hT', hw, hbi3, h0, run_askRoom, hS, hZ, Int.not_lt.2 h0, newRow]
  have hWd : ∀ o, w.alloc o = Wd.alloc w o := fun _ => rfl
  split
  · rename_i hz0
    rw [hWd]
    congr 3
    simp [zeroA, hz0]
  · rfl
theorem zeros_flatten (n : Nat) : (List.replicate n ([] : List Nat)).flatten = [] := by simp
theorem getD_replicate {α : Type} {n i : Nat} {a : α} : (List.replicate n a).getD i a = a := by
  simp only [List.getD_eq_getElem?_getD, List.getElem?_replicate]
  split <;> rfl
theorem op_makeSlice (hT : TOk P T) (hBy : ∀ e, E.By e = (te T e).bytes) {s : St} {o : Oper} {t : TypeId} {l c : Operand} (e : o.op = .makeSlice t l c) (hl : okOperand l = true) {et : TypeId} {y : Ty} (hd : (te T t).d = .sl et y) {y' : Ty} {k : IntKind} {n : Int} (h1 : evl s y' l = some (.int k n)) (hsame : sameOp l c = true)
    (h0 : 0 ≤ n) (hb : n.toNat * (te T et).bytes ≤ room) : OpOk E P o s ((s.newRow ⟨et, y, n.toNat, List.replicate n.toNat y.dflt⟩).put o.dst (.one (.ref (llen s.rw)))) := by
  obtain ⟨k1, k2, k3, inf, k4, k5, k6⟩ := sl_ent hT hd
  refine OpOk.step fun a w W hs => ?_
  obtain ⟨⟨hv, _⟩, _⟩ := evl_rep h1 hl hs
  obtain ⟨k', hc⟩ : ∃ k', a.eval c = .int k' n := by
    unfold sameOp at hsame
    split at hsame
    · rw [← Nat.eq_of_beq_eq_true hsame]; exact ⟨k, hv⟩
    · simp only [beq_iff_eq] at hsame
      subst hsame
      simp only [Act.eval] at hv ⊢
      cases hv
      exact ⟨_, rfl⟩
    · cases hsame
  have hr := run_makeSlice (P := P) (w := w) (k := k) (k' := k') k1 k4 k2 k3 h0 (by rw [k5]; exact hb) k6
  have hn : n.toNat ≤ room := Nat.le_trans (Nat.le_mul_of_pos_right _ (k5 ▸ k6)) hb
  have hsz := (mkV_size (e := 0) k3).2
  have := hs.makeRow (own := []) (row := ⟨et, y, n.toNat, List.replicate n.toNat y.dflt⟩) (w' := Wd.alloc w (.cells (zeroA (mkV y.isPair y.zeroC).cells (n.toNat * y.sz)) et (0, 0))) (v := .slice (some ⟨w.heap.size, 0, none⟩) n.toNat n.toNat) (B := [w.heap.size]) (by simp) (by simp) (by simp [Wd.alloc]) (fun b hb => alloc_old w _ hb) (frame_alloc hs.tb.frame _)
    (.inr ⟨w.heap.size, n.toNat, _, List.replicate n.toNat [], by simp, alloc_new w _, zeroA_size .., by simp, by rw [List.length_replicate, hBy]; exact hb, by simpa using hn, by rw [zeros_flatten], by simp, fun i hi => ?_⟩) (by simp) (by simp) (fun b hb => .inl (by simp at hb; omega))
  · refine ⟨_, _, _, ?_, this.1, this.2⟩
    simp only [execOp, e]
    refine run_next ?_
    rw [hv, hc]; exact hr
  · simp only [List.length_replicate] at hi
    rw [getD_replicate, getD_replicate]
    exact zeroEls_own k3 hi
end
end Go.Ri
/- Building slices and structs. -/
namespace Go.Ri
section
variable {E : Env} {P : Program} {T : List TE}

theorem fold_wrC : ∀ (vs : List Value) (cs : Array Value) (off k : Nat), (vs.zipIdx k).foldl (fun cs (c, j) => cs.setIfInBounds (off + j) c) cs = wrC cs (off + k) vs
  | [], _, _, _ => rfl
  | v :: vs, cs, off, k => by
    simp only [List.zipIdx_cons, List.foldl_cons, wrC]
    rw [fold_wrC vs]; rfl
theorem fill_step {pl : Nat → Option (Nat × Nat)} {cs : Array Value} {i off n : Nat} {v : Value} {rest : List (Nat × Value)} (h : pl i = some (off, n)) (hv : v.cells.size = n) (hl : off + n ≤ cs.size) : Instr.fill pl cs ((i, v) :: rest) = Instr.fill pl (wrC cs off v.cells.toList) rest := by
  simp only [Instr.fill, h]
  rw [if_neg (by simp only [ne_eq, Bool.or_eq_true, decide_eq_true_eq]; omega)]
  congr 1
  have := fold_wrC v.cells.toList cs off 0
  rw [Nat.add_zero] at this
  rw [← this, ← Array.foldl_toList, Array.toList_zipIdx]
theorem seg_paste {cs : Array Value} {i n : Nat} {vs : List Value} (h : i * n + n ≤ cs.size) (hv : vs.length = n) : seg (wrC cs (i * n) vs) i n = vs := by
  have := wr_cut (cs := cs) (o := i * n) (n := n) (j := 0) (m := vs.length) (vs := vs) h (by omega) rfl
  unfold seg
  rw [Nat.add_zero] at this
  rw [this, List.take_zero, List.nil_append, Nat.zero_add, List.drop_eq_nil_of_le (by simp only [List.length_take, List.length_drop]; omega), List.append_nil]

structure Els (By : TypeId → Nat) (W : Wit) (w : World) (t : Ty) (n : Nat) (cs : Array Value) (xs : List t.den) (Bs : List (List Nat)) (own : List Nat) : Prop where
  size : cs.size = n * t.sz
  xn : xs.length = n
  bn : Bs.length = n
  el : ∀ i, i < n → OwT By t w (Bs.getD i []) (seg cs i t.sz) (xs.getD i t.dflt)
  sub : ∀ b, b ∈ Bs.flatten → b ∈ rbs W own
  nodup : Bs.flatten.Nodup
theorem rbs_app {W : Wit} : ∀ {a b : List Nat}, rbs W (a ++ b) = rbs W a ++ rbs W b
  | [], b => rfl
  | x :: a, b => by simp [rbs, rbs_app (a := a)]
theorem lset_set {α : Type} : ∀ (l : List α) (i : Nat) (v : α), lset l i v = l.set i v
  | [], _, _ => rfl
  | _ :: _, 0, _ => rfl
  | _ :: r, n + 1, v => by simp [lset, lset_set r]
theorem buildEls_pre {s : St} {t : Ty} : ∀ {parts : List (Nat × Operand)} {xs xs' : List t.den} {own own' : List Nat}, buildEls s t parts xs own = some (xs', own') → ∃ r, own' = own ++ r
  | [], _, _, _, _, h => by simp only [buildEls, Option.some.injEq, Prod.mk.injEq] at h; exact ⟨[], by rw [← h.2]; simp⟩
  | (i, x) :: r, xs, xs', own, own', h => by
    simp only [buildEls] at h
    split at h
    · split at h
      · split at h
        · obtain ⟨r', rfl⟩ := buildEls_pre h
          rw [app_eq, List.append_assoc]; exact ⟨_, rfl⟩
        · cases h
      · cases h
    · cases h
theorem sv_cells {tb : Tb} {W : Wit} {w : World} {sv : SV} {v : Value} (h : SVRep E tb W w sv v) (h0 : sv.ls ≠ []) : LfsRep E tb W w sv.ls v.cells.toList := by
  cases sv with
  | one l => exact ls_rep rfl h
  | agg ls o => exact ls_rep rfl h
  | tup => exact absurd rfl h0
  | und => exact absurd rfl h0
theorem fill_els {s : St} {a : Act} {w : World} {W : Wit} (hs : Sim E s a.tmps w W) {t : Ty} (hz : 0 < t.sz) {n : Nat} : ∀ {parts : List (Nat × Operand)} {xs xs' : List t.den} {own own' : List Nat} {cs : Array Value} {Bs : List (List Nat)},
    buildEls s t parts xs own = some (xs', own') → own'.Nodup → (∀ p, p ∈ parts → okOperand p.2 = true) → (∀ q, q ∈ own → ∃ x, s.row q = some x) → Els E.By W w t n cs xs Bs own →
    ∃ cs' Bs', Instr.fill (fun i => some (i * t.sz, t.sz)) cs (parts.map fun p => (p.1, a.eval p.2)) = some cs' ∧ Els E.By W w t n cs' xs' Bs' own' ∧ ∀ q, q ∈ own' → ∃ x, s.row q = some x
  | [], xs, xs', own, own', cs, Bs, h, _, _, hh, k => by
    simp only [buildEls, Option.some.injEq, Prod.mk.injEq] at h
    obtain ⟨rfl, rfl⟩ := h
    exact ⟨cs, Bs, rfl, k, hh⟩
  | (i, x) :: r, xs, xs', own, own', cs, Bs, h, hn, hok, hh, k => by
    simp only [buildEls] at h
    split at h
    rotate_left
    · cases h
    rename_i sv hsv
    split at h
    rotate_left
    · cases h
    rename_i y o hy ho
    split at h
    rotate_left
    · cases h
    rename_i hlt
    have hi : i < n := by
      have : i + 1 ≤ llen xs := by simpa [Nat.blt] using hlt
      rw [llen_eq, k.xn] at this; exact this
    obtain ⟨own2, hpre⟩ := buildEls_pre h
    have hnn : (own ++ o).Nodup := by
      rw [app_eq] at hpre; rw [hpre] at hn; exact (List.nodup_append.1 hn).1
    simp only [St.rdT] at hy
    split at hy
    rotate_left
    · cases hy
    rename_i lv hlv
    have hlen : lv.length = t.sz := by rw [all_out hy, out_len]
    have hv := ev_rep hsv (hok _ (List.mem_cons_self ..)) hs
    have hne : sv.ls ≠ [] := fun e => by
      rw [e] at hlv
      simp only [St.lvs, Option.some.injEq] at hlv
      rw [← hlv] at hlen; simp at hlen; omega
    have hlr := sv_cells hv hne
    have how := own_rep (w' := w) hs.tb ho hlv hlr fun _ _ _ _ => rfl
    have hvl : (a.eval x).cells.toList.length = t.sz := by rw [OwLs_len E.By how, hlen]
    have hown : OwT E.By t w (rbs W o) (a.eval x).cells.toList y := (OwT_iff E.By).2 (by rw [← all_out hy]; exact how)
    have hcap : i * t.sz + t.sz ≤ cs.size := by rw [k.size, ← Nat.succ_mul]; exact Nat.mul_le_mul_right _ hi
    have hoh := own_has ho hlv
    have hib : i < Bs.length := by rw [k.bn]; exact hi
    have hdis : ∀ b, b ∈ rbs W own → b ∉ rbs W o := fun b hb hb' => by
      have := rbs_nodup hs.tb hnn (fun q hq => (List.mem_append.1 hq).elim (hh q) (hoh q))
      rw [rbs_app] at this
      exact (List.nodup_append.1 this).2.2 b hb b hb' rfl
    have hk : Els E.By W w t n (wrC cs (i * t.sz) (a.eval x).cells.toList) (lset xs i y) (Bs.set i (rbs W o)) (app own o) := by
      refine ⟨by rw [wrC_size]; exact k.size, by rw [lset_length]; exact k.xn, by rw [List.length_set]; exact k.bn, fun j hj => ?_, fun b hb => ?_, ?_⟩
      · rw [getD_set _ _ _ _ _ hib, lset_set, getD_set _ _ _ _ _ (by rw [k.xn]; exact hi)]
        by_cases e : i = j
        · subst e
          rw [if_pos rfl, if_pos rfl, seg_paste hcap hvl]; exact hown
        · rw [if_neg e, if_neg e]
          have := seg_other (cs := cs) (i := i) (i' := j) (j := 0) (n := t.sz) (m := 0) (vs := (a.eval x).cells.toList) (by omega) (by omega) (Ne.symm e)
          rw [Nat.add_zero] at this
          rw [this]; exact k.el j hj
      · rw [app_eq, rbs_app]
        rw [flatten_set hib] at hb
        simp only [List.mem_append] at hb ⊢
        have hsub := k.sub
        rw [flatten_at hib] at hsub
        rcases hb with hb | hb | hb
        · exact .inl (hsub b (by simp [hb]))
        · exact .inr hb
        · exact .inl (hsub b (by simp [hb]))
      · rw [flatten_set hib]
        have hsub := k.sub
        have hnd := k.nodup
        rw [flatten_at hib] at hsub hnd
        have ho2 := rbs_nodup hs.tb (List.nodup_append.1 hnn).2.1 hoh
        have h1 : ∀ b, b ∈ (Bs.take i).flatten → b ∉ rbs W o := fun b hb => hdis b (hsub b (by simp [hb]))
        have h3 : ∀ b, b ∈ (Bs.drop (i + 1)).flatten → b ∉ rbs W o := fun b hb => hdis b (hsub b (by simp [hb]))
        simp only [List.nodup_append, List.mem_append] at hnd ⊢
        grind
    obtain ⟨cs', Bs', r1, r2, r3⟩ := fill_els hs hz h hn (fun p hp => hok p (List.mem_cons_of_mem _ hp)) (fun q hq => by rw [app_eq] at hq; exact (List.mem_append.1 hq).elim (hh q) (hoh q)) hk
    refine ⟨cs', Bs', ?_, r2, r3⟩
    simp only [List.map_cons]
    rw [fill_step rfl (by rw [← Array.length_toList]; exact hvl) hcap]
    exact r1
end
end Go.Ri
/- Building slices: the operation. -/
namespace Go.Ri
section
variable {E : Env} {P : Program} {T : List TE}
theorem zeroEls_eq (t : Ty) : ∀ n, zeroEls t n = List.replicate n t.dflt
  | 0 => rfl
  | n + 1 => by simp [zeroEls, zeroEls_eq t n, List.replicate_succ]
theorem run_buildSlice {w : World} {t e : TypeId} {y : Ty} (ht : P.underlying t = some (.slice e)) (hc : CellsOk P e y) (hz : 0 < y.sz) {n : Nat} {parts : Array (Nat × Value)} {cs : Array Value} (hn : n * y.sz ≤ 16777216)
    (hf : Instr.fill (fun i => some (i * y.sz, y.sz)) (zeroA (mkV y.isPair y.zeroC).cells (n * y.sz)) parts.toList = some cs) :
    (Instr.buildSlice t n parts).run P w = .ok (.slice (some ⟨w.heap.size, 0, none⟩) n n) (Wd.alloc w (.cells cs e (0, 0))) := by
  have hS : (sizeOf e).run P w = .ok y.sz w := run_sizeOf hc
  have hZ : (zeroValue e).run P w = .ok (mkV y.isPair y.zeroC) w := run_zero hc
  have hWd : ∀ o, w.alloc o = Wd.alloc w o := fun _ => rfl
  have hn' : ¬ (16777216 < n * y.sz) := by omega
  unfold Instr.buildSlice
  simp [run_underlying ht, Result.andThen, hS, hZ, hn']
  have hz' : ∀ z : Array Value, Array.map (fun x => z[x % z.size]!) (Array.range (n * y.sz)) = zeroA z (n * y.sz) := fun _ => rfl
  split
  · rename_i hz0
    have e1 : Array.map (fun x => (default : Value)) (Array.range (n * y.sz)) = zeroA (mkV y.isPair y.zeroC).cells (n * y.sz) := by simp [zeroA, hz0]
    rw [e1, hf]
    simp [newRow, Result.andThen, hWd]
  · rw [hz', hf]
    simp [newRow, Result.andThen, hWd]
theorem op_buildSlice (hT : TOk P T) (hBy : ∀ e, E.By e = (te T e).bytes) {s : St} {o : Oper} {t : TypeId} {n : Nat} {parts : Array (Nat × Operand)} (e : o.op = .buildSlice t n parts) (hok : ∀ p, p ∈ parts.toList → okOperand p.2 = true) {et : TypeId} {y : Ty} (hd : (te T t).d = .sl et y)
    {xs : List y.den} {own : List Nat} (h : buildEls s y parts.toList (zeroEls y n) [] = some (xs, own)) (hnd : nodupN own = true) (h1 : llen xs * y.sz ≤ 16777216) (h2 : llen xs * (te T et).bytes ≤ room) :
    OpOk E P o s (((s.newRow ⟨et, y, llen xs, xs⟩).intoRows (llen s.rw) own).put o.dst (.one (.ref (llen s.rw)))) := by
  obtain ⟨k1, k2, k3, inf, k4, k5, k6⟩ := sl_ent hT hd
  refine OpOk.step fun a w W hs => ?_
  obtain ⟨cs, Bs, r1, r2, r3⟩ := fill_els hs k3 (n := n) (cs := zeroA (mkV y.isPair y.zeroC).cells (n * y.sz)) (Bs := List.replicate n []) h (nodupN_iff.1 hnd) hok (by simp)
    ⟨zeroA_size .., by rw [zeroEls_eq, List.length_replicate], by simp, fun i hi => by rw [getD_replicate, zeroEls_eq, getD_replicate]; exact zeroEls_own k3 hi, by rw [zeros_flatten]; simp, by rw [zeros_flatten]; simp⟩
  have hxn : llen xs = n := by rw [llen_eq]; exact r2.xn
  rw [hxn] at h1 h2 ⊢
  have hnr : n ≤ room := Nat.le_trans (Nat.le_mul_of_pos_right _ (k5 ▸ k6)) h2
  have hlt : ∀ b, b ∈ Bs.flatten → b < w.heap.size := fun b hb => by
    obtain ⟨q, hq, hb⟩ := mem_rbs.1 (r2.sub b hb)
    obtain ⟨x, hx⟩ := r3 q hq
    exact Sim.lt_row hs.tb hx hb
  have := hs.makeRow (own := own) (row := ⟨et, y, n, xs⟩) (w' := Wd.alloc w (.cells cs et (0, 0))) (v := .slice (some ⟨w.heap.size, 0, none⟩) n n) (B := w.heap.size :: Bs.flatten) (nodupN_iff.1 hnd) r3 (by simp [Wd.alloc]) (fun b hb => alloc_old w _ hb) (frame_alloc hs.tb.frame _)
    (.inr ⟨w.heap.size, n, cs, Bs, by rw [r2.xn], alloc_new w _, r2.size, by rw [r2.xn]; exact Nat.le_refl _, by rw [r2.xn, hBy]; exact h2, by rw [r2.xn]; exact hnr, rfl, by rw [r2.bn, r2.xn], fun i hi => OwT.frame E.By (r2.el i (by rw [← r2.xn]; exact hi)) fun b hb => alloc_old w _ (hlt b (mem_flatten_getD hb))⟩) r2.xn.symm
    (List.nodup_cons.2 ⟨fun h => Nat.lt_irrefl _ (hlt _ h), r2.nodup⟩) (fun b hb => by
      rcases List.mem_cons.1 hb with rfl | hb
      · exact .inl (Nat.le_refl _)
      · exact .inr (r2.sub b hb))
  refine ⟨_, _, _, ?_, this.1, this.2⟩
  simp only [execOp, e]
  refine run_next ?_
  refine run_buildSlice k1 k2 k3 h1 ?_
  rw [Array.toList_map]; exact r1
end
end Go.Ri
/- Building structs. -/
namespace Go.Ri
section
variable {E : Env} {P : Program} {T : List TE}

theorem places_at {P : Program} : ∀ {fs : List Field} {ys : List Ty} {o : Nat}, fieldsOk P fs ys o = true → ∃ pl, fs.mapM (fun f => (P.info? f.type).map fun i => (f.offset, i.size)) = some pl ∧ ∀ i y, lnth ys i = some y → pl[i]? = some (o + offOf ys i, y.sz)
  | [], [], _, _ => ⟨[], rfl, fun i y h => by cases i <;> simp [lnth] at h⟩
  | f :: r, z :: ys, o, h => by
    have h' := h
    simp only [fieldsOk, Bool.and_eq_true] at h
    obtain ⟨⟨⟨h1, h2⟩, h3⟩, h4⟩ := h
    obtain ⟨pl, k1, k2⟩ := places_at h4
    obtain ⟨i, hi, hs, _⟩ := (cellsOk_ok h2).info
    refine ⟨(f.offset, i.size) :: pl, by simp [hi, k1], fun j y hy => ?_⟩
    cases j with
    | zero =>
      simp only [lnth] at hy
      cases hy
      simp [offOf, Nat.eq_of_beq_eq_true h1, hs]
    | succ j =>
      have := k2 j y (by simpa [lnth] using hy)
      simp only [List.getElem?_cons_succ, this, offOf]
      congr 2
      omega
  | [], _ :: _, _, h => by simp [fieldsOk] at h
  | _ :: _, [], _, h => by simp [fieldsOk] at h
theorem offOf_le : ∀ {ys : List Ty} {i : Nat} {y : Ty}, lnth ys i = some y → offOf ys i + y.sz ≤ (tyOf ys).sz
  | [], i, y, h => by cases i <;> simp [lnth] at h
  | [a], 0, y, h => by simp only [lnth] at h; cases h; simp [offOf, tyOf]
  | [a], i + 1, y, h => by cases i <;> simp [lnth] at h
  | a :: b :: r, 0, y, h => by simp only [lnth] at h; cases h; simp [offOf, tyOf, Ty.sz]
  | a :: b :: r, i + 1, y, h => by
    have := offOf_le (ys := b :: r) (i := i) (y := y) (by simpa [lnth] using h)
    simp only [offOf, tyOf, Ty.sz] at this ⊢
    omega
theorem LfsRep_paste {tb : Tb} {W : Wit} {w : World} {ls ms : List Lf} {cs : Array Value} {vs : List Value} {o : Nat} (h : LfsRep E tb W w ls cs.toList) (k : LfsRep E tb W w ms vs) (hl : o + vs.length ≤ cs.size) :
    LfsRep E tb W w (pasteN o ms ls) (wrC cs o vs).toList := by
  have := wr_cut (cs := cs) (o := 0) (n := cs.size) (j := o) (m := vs.length) (vs := vs) (by omega) hl rfl
  rw [Nat.zero_add, List.drop_zero, List.drop_zero, List.take_of_length_le (l := (wrC cs o vs).toList) (Nat.le_of_eq (Array.length_toList.trans (wrC_size ..))), List.take_of_length_le (l := cs.toList) (Nat.le_of_eq Array.length_toList)] at this
  rw [this, pasteN_eq, LfsRep_len k]
  exact LfsRep_append (LfsRep_take _ h) (LfsRep_append k (LfsRep_drop _ h))
theorem fill_ls {s : St} {a : Act} {w : World} {W : Wit} (hs : Sim E s a.tmps w W) {fs : List Ty} {pl : Array (Nat × Nat)} (hpl : ∀ i y, lnth fs i = some y → pl[i]? = some (offOf fs i, y.sz)) (hpos : ∀ i y, lnth fs i = some y → 0 < y.sz) :
    ∀ {parts : List (Nat × Operand)} {ls ls' : List Lf} {cs : Array Value}, buildLs s fs parts ls = some ls' → (∀ p, p ∈ parts → okOperand p.2 = true) → LfsRep E s.tb W w ls cs.toList → cs.size = (tyOf fs).sz →
    ∃ cs', Instr.fill (pl[·]?) cs (parts.map fun p => (p.1, a.eval p.2)) = some cs' ∧ LfsRep E s.tb W w ls' cs'.toList
  | [], ls, ls', cs, h, _, k, _ => by
    simp only [buildLs, Option.some.injEq] at h
    subst h
    exact ⟨cs, rfl, k⟩
  | (i, x) :: r, ls, ls', cs, h, hok, k, hsz => by
    simp only [buildLs] at h
    split at h
    rotate_left
    · cases h
    rename_i y hy
    split at h
    rotate_left
    · cases h
    rename_i sv hsv
    split at h
    rotate_left
    · cases h
    rename_i hlen
    have hlen := Nat.eq_of_beq_eq_true hlen
    rw [llen_eq] at hlen
    have hp := hpos i y hy
    have hv := ev_rep hsv (hok _ (List.mem_cons_self ..)) hs
    have hlr := sv_cells hv (fun e => by rw [e] at hlen; simp at hlen; omega)
    have hvl : (a.eval x).cells.toList.length = y.sz := by rw [← LfsRep_len hlr, hlen]
    have hcap : offOf fs i + y.sz ≤ cs.size := by rw [hsz]; exact offOf_le hy
    obtain ⟨cs', r1, r2⟩ := fill_ls hs hpl hpos h (fun p hp => hok p (List.mem_cons_of_mem _ hp)) (LfsRep_paste k hlr (by rw [hvl]; exact hcap)) (by rw [wrC_size]; exact hsz)
    refine ⟨cs', ?_, r2⟩
    simp only [List.map_cons]
    rw [fill_step (hpl i y hy) (by rw [← Array.length_toList]; exact hvl) hcap]
    exact r1
theorem op_build (hT : TOk P T) {s : St} {o : Oper} {t : TypeId} {parts : Array (Nat × Operand)} (e : o.op = .build t parts) (hok : ∀ p, p ∈ parts.toList → okOperand p.2 = true) {fs : List Ty} (hd : (te T t).d = .st fs) {ls : List Lf}
    (h : buildLs s fs parts.toList (tyOf fs).zero = some ls) : OpOk E P o s (s.put o.dst (.agg ls none)) := by
  obtain ⟨fa, hu, hf⟩ := st_ent hT hd
  obtain ⟨pl, hp, hpl⟩ := places_at hf
  have hz := sz_pos hT t (by rw [hd]; simp)
  have hc := cells_ok hT hz
  rw [hd] at hc hz
  change CellsOk P t (tyOf fs) at hc
  change (tyOf fs).sz ≠ 0 at hz
  obtain ⟨hm1, hm2⟩ := mkV_size (e := 0) (Nat.pos_of_ne_zero hz)
  refine OpOk.value fun a w W hs => ?_
  obtain ⟨cs, r1, r2⟩ := fill_ls hs (pl := pl.toArray) (fun i y hy => by have := hpl i y hy; simpa using this) (fun i y hy => by
    obtain ⟨_, k2⟩ := fieldsOk_at hf
    obtain ⟨f, _, _, _, hpos⟩ := k2 i y hy
    exact hpos) h hok (cs := (mkV (tyOf fs).isPair (tyOf fs).zeroC).cells) (by rw [hm1]; exact zero_rep _) hm2
  refine ⟨.agg cs, ?_, cs, rfl, r2, trivial⟩
  simp only [execOp, e]
  refine run_next ?_
  obtain ⟨it, hit, _, hzero⟩ := hc.info
  refine run_build w t _ cs ?_
  simp only [Program.built, hit, hu, hzero, hp, Array.toList_map]
  exact r1
end
end Go.Ri
/- Picks; functions that hold values. -/
namespace Go.Ri
section
variable {E : Env} {P : Program} {T : List TE}

theorem exec_pick (o : Oper) {c x y : Operand} (e : o.op = .pick c x y) (ρ : Operand → Value) {b : Bool} (hc : ρ c = .bool b) (w : World) : (execOp ρ o).run P w = .ok (.value (if b then ρ x else ρ y)) w := by
  simp only [execOp, e, hc, asBool]
  cases b <;> simp [Result.andThen]
theorem pickLf_rep {tb : Tb} {W : Wit} {w : World} {t : Bool} {x y l : Lf} {u v : Value} (h : pickLf t x y = some l) (hu : LfRep E tb W w x u ∧ u.oneCell' = true) (hv : LfRep E tb W w y v ∧ v.oneCell' = true) : LfRep E tb W w l (if t then u else v) ∧ (if t then u else v).oneCell' = true := by
  unfold pickLf at h
  split at h
  · cases h
    cases t
    · exact hv
    · exact hu
  · split at h
    · rename_i hk
      cases h
      obtain rfl := ikEq_eq hk
      cases t
      · exact hv
      · exact hu
    · cases h
  · cases h
    cases t
    · exact hv
    · exact hu
  · cases h
theorem op_pick {s s' : St} {o : Oper} {c x y : Operand} (e : o.op = .pick c x y) (hc : okOperand c = true) (hx : okOperand x = true) (hy : okOperand y = true) {t : Bool} {y1 y2 y3 : Ty} (h1 : ev s y1 c = some (.one (.bool t)))
    (h : (match known (ev s y2 x), known (ev s y3 y) with
      | some (.one x), some (.one y) => match pickLf t x y with
        | some l => Eff.nxt (s.put o.dst (.one l)) | none => .bad
      | some x, none => .chk t (s.put o.dst x)
      | none, some y => .chk (!t) (s.put o.dst y)
      | _, _ => .bad).opt = some s') : OpOk E P o s s' := by
  have hcv : ∀ (a : Act) (w : World) (W : Wit), Sim E s a.tmps w W → a.eval c = .bool t := fun a w W hs => (ev_rep h1 hc hs).1
  have kn : ∀ {z : Option SV} {v : SV}, known z = some v → z = some v := fun {z v} h => by
    unfold known at h
    split at h
    · cases h
    · exact h
  split at h
  · rename_i lx ly ex ey
    split at h
    · rename_i l hl
      cases h
      refine OpOk.value fun a w W hs => ⟨_, exec_pick o e _ (hcv a w W hs) w, ?_⟩
      exact pickLf_rep hl (ev_rep (kn ex) hx hs) (ev_rep (kn ey) hy hs)
    · cases h
  · rename_i v ex ey
    simp only [Eff.opt] at h
    split at h
    · rename_i ht
      cases h
      refine OpOk.value fun a w W hs => ⟨_, exec_pick o e _ (hcv a w W hs) w, ?_⟩
      rw [ht]; exact ev_rep (kn ex) hx hs
    · cases h
  · rename_i v ex ey
    simp only [Eff.opt] at h
    split at h
    · rename_i ht
      cases h
      refine OpOk.value fun a w W hs => ⟨_, exec_pick o e _ (hcv a w W hs) w, ?_⟩
      have : t = false := by simpa using ht
      rw [this]; exact ev_rep (kn ey) hy hs
    · cases h
  · cases h
end
end Go.Ri
/- Functions that hold values. -/
namespace Go.Ri
section
variable {E : Env} {P : Program} {T : List TE}

theorem evs_rep {s : St} {a : Act} {w : World} {W : Wit} (hs : Sim E s a.tmps w W) : ∀ {ys : List Ty} {xs : List Operand} {vs : List SV}, evs s ys xs = some vs → (∀ x, x ∈ xs → okOperand x = true) → SVsRep E s.tb W w vs (xs.map a.eval)
  | [], [], vs, h, _ => by simp only [evs, Option.some.injEq] at h; subst h; trivial
  | y :: ys, x :: xs, vs, h, ho => by
    simp only [evs] at h
    split at h
    · rename_i v hv
      split at h
      · rename_i r hr
        cases h
        exact ⟨ev_rep hv (ho x (List.mem_cons_self ..)) hs, evs_rep hs hr fun z hz => ho z (List.mem_cons_of_mem _ hz)⟩
      · cases h
    · cases h
  | [], _ :: _, _, h, _ => by simp [evs] at h
  | _ :: _, [], _, h, _ => by simp [evs] at h
/-- scalars that are known -/
theorem scal_rep {s : St} {W : Wit} {w : World} {S : Nat → Prop} : ∀ {vs : List SV} {us : List Value} {l : List LV}, s.lvs (oneLs vs) = some l → scal l = true → SVsRep E s.tb W w vs us → VwLs E.By w S us l
  | [], [], l, h, _, _ => by simp only [oneLs, St.lvs, Option.some.injEq] at h; subst h; trivial
  | [], _ :: _, _, _, _, k => k.elim
  | _ :: _, [], _, _, _, k => by cases k
  | sv :: vs, u :: us, l, h, hs, k => by
    cases sv with
    | one f =>
      simp only [oneLs] at h
      obtain ⟨a, b, h2, h3, rfl⟩ := lvs_cons h
      have hb : scal b = true := by cases a <;> simp_all [scal]
      refine ⟨?_, scal_rep h3 hb k.2⟩
      have k1 := k.1.1
      cases f with
      | int k z => simp only [St.lv, Option.some.injEq] at h2; subst h2; exact ⟨by rw [k1.1], k1.2⟩
      | bool z => simp only [St.lv, Option.some.injEq] at h2; subst h2; exact (by rw [show u = _ from k1] : [u] = [Value.bool z])
      | str z => simp only [St.lv, Option.some.injEq] at h2; subst h2; exact ⟨by rw [k1.1], k1.2⟩
      | nil e t => simp only [St.lv, Option.some.injEq] at h2; subst h2; simp [scal] at hs
      | vw rs e t xs => simp only [St.lv, Option.some.injEq] at h2; subst h2; simp [scal] at hs
      | ref r =>
        simp only [St.lv] at h2
        split at h2
        · cases h2; simp [scal] at hs
        · cases h2
      | _ => simp [St.lv] at h2
    | agg ls o => simp [oneLs, St.lvs, St.lv] at h
    | tup ls => simp [oneLs, St.lvs, St.lv] at h
    | und => simp [oneLs, St.lvs, St.lv] at h
theorem op_makeFunc {s : St} {o : Oper} {f : FuncId} {first cs : Array Operand} (e : o.op = .makeFunc (.func f) first cs) (h0 : first.toList = []) (hok : ∀ x, x ∈ cs.toList → okOperand x = true) {ys : List Ty} {vs : List SV} (h1 : evs s ys cs.toList = some vs) {l : List LV} (h2 : s.lvs (oneLs vs) = some l) (h3 : scal l = true) :
    OpOk E P o s (s.put o.dst (.one (.fn f l))) := by
  have hf : first = #[] := by simpa using h0
  subst hf
  refine OpOk.value fun a w W hs => ⟨.func (.func f) #[] (cs.map a.eval), ?_, ⟨_, rfl, ?_⟩, rfl⟩
  · simp only [execOp, e]
    refine run_next ?_
    simp [Instr.makeFunc]
  · rw [Array.toList_map]
    exact scal_rep h2 h3 (evs_rep hs h1 hok)
end
end Go.Ri
/- Bytes that become a string. -/
namespace Go.Ri
section
variable {E : Env} {P : Program} {T : List TE}
theorem bytes_cells {By : TypeId → Nat} {w : World} {S : Nat → Prop} {xs : List Int} {news : List Value} (hl : news.length = xs.length * 1) (h : ∀ i, i < xs.length → VwT By (.int .u8) w S (lseg news i 1) (xs.getD i 0)) : news = xs.map (Value.int .u8) := by
  apply List.ext_getElem?
  intro i
  by_cases hi : i < xs.length
  · have := (h i hi).1
    have e : (lseg news i 1)[0]? = news[i]? := by
      unfold lseg; simp
    rw [← e, this]
    simp [List.getD_eq_getElem?_getD, List.getElem?_eq_getElem hi]
  · rw [List.getElem?_eq_none (by omega), List.getElem?_eq_none (by simp; omega)]
theorem op_conv_bytes (hT : TOk P T) {s : St} {o : Oper} {src dst : TypeId} {x : Operand} (e : o.op = .convert src dst x) (hx : okOperand x = true) {et : TypeId} (hs1 : (te T src).d = .sl et (.int .u8)) (he : (te T et).d = .sc (.int .u8)) (hd : (te T dst).d = .sc .str) {y : Ty} {l : Lf} (h1 : ev s y x = some (.one l)) {rd : Rd} (hr : s.rdS l = some rd) (h : rd.t.beq (.int .u8) = true) :
    OpOk E P o s (s.put o.dst (.one (.str (bytesOf (castI h rd.xs))))) := by
  refine OpOk.value fun a w W hs => ?_
  obtain ⟨hl, _⟩ := ev_rep h1 hx hs
  obtain ⟨_, hvw⟩ := rdS_slice hr rfl hs.tb hl
  obtain ⟨re, rt, rn, rxs, rrs⟩ := rd
  obtain rfl := Ty.beq_eq h
  have hcast : castI h rxs = rxs := rfl
  simp only at hvw
  rw [hcast]
  obtain ⟨A, c, news, k1, k2, k3, k4, k5, k6⟩ := vw_cells hvw
  have hnews := bytes_cells k2 k5
  obtain ⟨q1, _⟩ := sl_ent hT hs1
  have q2 := int_ent hT he
  have q3 := str_ent hT hd
  refine ⟨.string (bytesOf rxs), ?_, ⟨rfl, ?_⟩, rfl⟩
  · simp only [execOp, e]
    refine run_next ?_
    rw [k1]
    cases A with
    | none =>
      have h0 := k3 rfl
      have : rxs = [] := List.eq_nil_of_length_eq_zero h0
      subst this
      rw [run_convert_bytes_nil (P := P) w src et q1 q2 _ _ dst q3]; rfl
    | some b =>
      have hlc : (loadCells b rxs.length).run P w = .ok (rxs.map (Value.int .u8)).toArray w := by
        have := run_loadCells_list (P := P) w b news (k4 b rfl)
        rw [hnews] at this
        simpa using this
      rw [run_convert_bytes_string w src dst et _ _ c q1 q2 q3, run_bytesToString w _ _ c rxs hlc, foldl_push_bytes]
      simp [bytesOf, ByteArray.empty, ByteArray.emptyWithCapacity]
      rfl
  · show (bytesOf rxs).size ≤ strRoom
    have : (bytesOf rxs).size = rxs.length := by simp [bytesOf, ByteArray.size]
    rw [this]
    unfold room at k6; unfold strRoom; omega
end
end Go.Ri
