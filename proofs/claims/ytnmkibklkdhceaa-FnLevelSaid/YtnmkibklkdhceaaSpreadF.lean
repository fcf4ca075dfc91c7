/- Lean functions for the Go functions that the law reaches, and their contracts; written by a program of this session. -/
import Derived.Test.YtnmkibklkdhceaaEvenF
set_option linter.unusedVariables false
open Go Go.Ri
set_option maxRecDepth 100000
def Gf.spec_l01In (k : Nat) (a0 : Int) (a1 : Int) (a2 : Int) : Option Bool := if decide (a0 ≥ a1) = true then some (decide (a0 ≤ a2)) else some false
def Gf.spec_l01In.c (k : Nat) : Ctr := ⟨[.vw (.int .i64), .vw (.int .i64), .vw (.int .i64)], [.bool], false, false, fun (x : (Int) × (Int) × (Int)) => Gf.spec_l01In k x.1 x.2.1 x.2.2⟩
theorem Gf.spec_l01In.e (k : Nat) (x : Tys.den (tysOf [.vw (.int .i64), .vw (.int .i64), .vw (.int .i64)])) : runFn Gf.tt [] Go.Proofs.Try.f36 [.vw (.int .i64), .vw (.int .i64), .vw (.int .i64)] [.bool] false false [] 3000 x = (Gf.spec_l01In.c k).F x := by kernel_rfl
theorem Gf.spec_l01In.ok (k : Nat) : CtrOk Go.Proofs.Try.prog Gf.By 36 (Gf.spec_l01In.c k) :=
  fn_ctr (Γ := fun k => []) Gf.hT (fun _ => rfl) Go.Proofs.Try.func36 (by kernel_rfl) (fun k => CtrsOk.nil) (draws_ok Gf.mixed fun k => by kernel_rfl) fun C h x y hy => h.entry k (Cx.CutsOk.nil C) ((Gf.spec_l01In.e k x).trans hy)

def Gf.spec_l01Num (k : Nat) (a0 : Int) : Option Bool := Option.bind (Gf.spec_l01In k a0 (0 : Int) (1125899906842624 : Int)) fun (r4 : Bool) => some r4
def Gf.spec_l01Num.c (k : Nat) : Ctr := ⟨[.vw (.int .i64)], [.bool], false, false, fun (x : (Int)) => Gf.spec_l01Num k x⟩
theorem Gf.spec_l01Num.e (k : Nat) (x : Tys.den (tysOf [.vw (.int .i64)])) : runFn Gf.tt [(36, Gf.spec_l01In.c k)] Go.Proofs.Try.f35 [.vw (.int .i64)] [.bool] false false [] 3000 x = (Gf.spec_l01Num.c k).F x := by kernel_rfl
theorem Gf.spec_l01Num.ok (k : Nat) : CtrOk Go.Proofs.Try.prog Gf.By 35 (Gf.spec_l01Num.c k) :=
  fn_ctr (Γ := fun k => [(36, Gf.spec_l01In.c k)]) Gf.hT (fun _ => rfl) Go.Proofs.Try.func35 (by kernel_rfl) (fun k => (.cons (Gf.spec_l01In.ok k) CtrsOk.nil)) (draws_ok Gf.mixed fun k => by kernel_rfl) fun C h x y hy => h.entry k (Cx.CutsOk.nil C) ((Gf.spec_l01Num.e k x).trans hy)

def Gf.spec_Spread.p5  : Nat → Int → Int → Int → List Int → Option (List Int)
  | 0, _, _, _, _ => none
  | k + 1, v0, v1, v6, w0 => if decide (v6 < v1) = true then if (v1 != (0 : Int)) = true then if (v1 != (0 : Int)) = true then if decide (v6 < Int.tmod v0 v1) = true then if decide ((List.length w0 + (1 : Nat)) * (8 : Nat) ≤ room) = true then (Gf.spec_Spread.p5 k) v0 v1 (IntKind.wrap IntKind.i64 (v6 + (1 : Int))) (w0 ++ [IntKind.wrap IntKind.i64 (IntKind.wrap IntKind.i64 (Int.tdiv v0 v1) + (1 : Int))]) else none else if decide ((List.length w0 + (1 : Nat)) * (8 : Nat) ≤ room) = true then (Gf.spec_Spread.p5 k) v0 v1 (IntKind.wrap IntKind.i64 (v6 + (1 : Int))) (w0 ++ [IntKind.wrap IntKind.i64 (Int.tdiv v0 v1)]) else none else none else none else some w0
def Gf.spec_Spread.s5 : Shape := ⟨spread 38 0 [(0, .one (.int .i64)), (1, .one (.int .i64)), (5, .one (.ref 0)), (6, .one (.int .i64))], [], [(3, (.int .i64))], 0, 0⟩
def Gf.spec_Spread (k : Nat) (a0 : Int) (a1 : Int) : Option (List Int) := Option.bind (Gf.spec_l01Num k a0) fun (r10 : Bool) => if (!r10) = true then some [] else Option.bind (Gf.spec_l01In k a1 (1 : Int) (4 : Int)) fun (r14 : Bool) => if (!r14) = true then some [] else (Gf.spec_Spread.p5 k) a0 a1 (0 : Int) []
def Gf.spec_Spread.c (k : Nat) : Ctr := ⟨[.vw (.int .i64), .vw (.int .i64)], [(.slice 3 (.int .i64))], false, false, fun (x : (Int) × (Int)) => Gf.spec_Spread k x.1 x.2⟩
theorem Gf.spec_Spread.e5  (k : Nat) (d : DTs.den Gf.spec_Spread.s5.ds) : runPiece Gf.tt [(35, Gf.spec_l01Num.c k), (36, Gf.spec_l01In.c k)] (retF Gf.tt Go.Proofs.Try.f15 [.vw (.int .i64), .vw (.int .i64)] [(.slice 3 (.int .i64))] false false) [(5, Gf.spec_Spread.s5.cut fun d => (Gf.spec_Spread.p5 k) d.1 d.2.1 d.2.2.1 d.2.2.2.1)] 3000 5 (bodyOf Go.Proofs.Try.f15) (Gf.spec_Spread.s5.fill d) = Gf.spec_Spread.p5 (k + 1) d.1 d.2.1 d.2.2.1 d.2.2.2.1 := by kernel_rfl
theorem Gf.spec_Spread.e (k : Nat) (x : Tys.den (tysOf [.vw (.int .i64), .vw (.int .i64)])) : runFn Gf.tt [(35, Gf.spec_l01Num.c k), (36, Gf.spec_l01In.c k)] Go.Proofs.Try.f15 [.vw (.int .i64), .vw (.int .i64)] [(.slice 3 (.int .i64))] false false [(5, Gf.spec_Spread.s5.cut fun d => (Gf.spec_Spread.p5 k) d.1 d.2.1 d.2.2.1 d.2.2.2.1)] 3000 x = (Gf.spec_Spread.c k).F x := by kernel_rfl
theorem Gf.spec_Spread.o5 {C : Cx (Tys.den (app [(.slice 3 (.int .i64))] (outsOf [.vw (.int .i64), .vw (.int .i64)])))} (h : FnCx C Gf.tt (fun k => [(35, Gf.spec_l01Num.c k), (36, Gf.spec_l01In.c k)]) (bodyOf Go.Proofs.Try.f15) (retF Gf.tt Go.Proofs.Try.f15 [.vw (.int .i64), .vw (.int .i64)] [(.slice 3 (.int .i64))] false false))   : ∀ k, C.CutOk 5 (Gf.spec_Spread.s5.cut fun d => Gf.spec_Spread.p5 k d.1 d.2.1 d.2.2.1 d.2.2.2.1) :=
  FnCx.loop (fun d => rfl) fun k ih => h.piece k (by kernel_rfl) (.cons ih (Cx.CutsOk.nil C)) (Gf.spec_Spread.e5 k)
theorem Gf.spec_Spread.ok (k : Nat) : CtrOk Go.Proofs.Try.prog Gf.By 15 (Gf.spec_Spread.c k) :=
  fn_ctr (Γ := fun k => [(35, Gf.spec_l01Num.c k), (36, Gf.spec_l01In.c k)]) Gf.hT (fun _ => rfl) Go.Proofs.Try.func15 (by kernel_rfl) (fun k => (.cons (Gf.spec_l01Num.ok k) (.cons (Gf.spec_l01In.ok k) CtrsOk.nil))) (draws_ok Gf.mixed fun k => by kernel_rfl) fun C h x y hy => h.entry k (.cons (Gf.spec_Spread.o5 h k) (Cx.CutsOk.nil C)) ((Gf.spec_Spread.e k x).trans hy)

def Gf.impl_in (k : Nat) (a0 : Int) (a1 : Int) (a2 : Int) : Option Bool := if decide (a0 ≥ a1) = true then some (decide (a0 ≤ a2)) else some false
def Gf.impl_in.c (k : Nat) : Ctr := ⟨[.vw (.int .i64), .vw (.int .i64), .vw (.int .i64)], [.bool], false, false, fun (x : (Int) × (Int) × (Int)) => Gf.impl_in k x.1 x.2.1 x.2.2⟩
theorem Gf.impl_in.e (k : Nat) (x : Tys.den (tysOf [.vw (.int .i64), .vw (.int .i64), .vw (.int .i64)])) : runFn Gf.tt [] Go.Proofs.Try.f41 [.vw (.int .i64), .vw (.int .i64), .vw (.int .i64)] [.bool] false false [] 3000 x = (Gf.impl_in.c k).F x := by kernel_rfl
theorem Gf.impl_in.ok (k : Nat) : CtrOk Go.Proofs.Try.prog Gf.By 41 (Gf.impl_in.c k) :=
  fn_ctr (Γ := fun k => []) Gf.hT (fun _ => rfl) Go.Proofs.Try.func41 (by kernel_rfl) (fun k => CtrsOk.nil) (draws_ok Gf.mixed fun k => by kernel_rfl) fun C h x y hy => h.entry k (Cx.CutsOk.nil C) ((Gf.impl_in.e k x).trans hy)

def Gf.impl_isNum (k : Nat) (a0 : Int) : Option Bool := Option.bind (Gf.impl_in k a0 (0 : Int) (1125899906842624 : Int)) fun (r4 : Bool) => some r4
def Gf.impl_isNum.c (k : Nat) : Ctr := ⟨[.vw (.int .i64)], [.bool], false, false, fun (x : (Int)) => Gf.impl_isNum k x⟩
theorem Gf.impl_isNum.e (k : Nat) (x : Tys.den (tysOf [.vw (.int .i64)])) : runFn Gf.tt [(41, Gf.impl_in.c k)] Go.Proofs.Try.f37 [.vw (.int .i64)] [.bool] false false [] 3000 x = (Gf.impl_isNum.c k).F x := by kernel_rfl
theorem Gf.impl_isNum.ok (k : Nat) : CtrOk Go.Proofs.Try.prog Gf.By 37 (Gf.impl_isNum.c k) :=
  fn_ctr (Γ := fun k => [(41, Gf.impl_in.c k)]) Gf.hT (fun _ => rfl) Go.Proofs.Try.func37 (by kernel_rfl) (fun k => (.cons (Gf.impl_in.ok k) CtrsOk.nil)) (draws_ok Gf.mixed fun k => by kernel_rfl) fun C h x y hy => h.entry k (Cx.CutsOk.nil C) ((Gf.impl_isNum.e k x).trans hy)

def Gf.impl_isChoice (k : Nat) (a0 : Int) : Option Bool := Option.bind (Gf.impl_in k a0 (1 : Int) (4 : Int)) fun (r4 : Bool) => some r4
def Gf.impl_isChoice.c (k : Nat) : Ctr := ⟨[.vw (.int .i64)], [.bool], false, false, fun (x : (Int)) => Gf.impl_isChoice k x⟩
theorem Gf.impl_isChoice.e (k : Nat) (x : Tys.den (tysOf [.vw (.int .i64)])) : runFn Gf.tt [(41, Gf.impl_in.c k)] Go.Proofs.Try.f38 [.vw (.int .i64)] [.bool] false false [] 3000 x = (Gf.impl_isChoice.c k).F x := by kernel_rfl
theorem Gf.impl_isChoice.ok (k : Nat) : CtrOk Go.Proofs.Try.prog Gf.By 38 (Gf.impl_isChoice.c k) :=
  fn_ctr (Γ := fun k => [(41, Gf.impl_in.c k)]) Gf.hT (fun _ => rfl) Go.Proofs.Try.func38 (by kernel_rfl) (fun k => (.cons (Gf.impl_in.ok k) CtrsOk.nil)) (draws_ok Gf.mixed fun k => by kernel_rfl) fun C h x y hy => h.entry k (Cx.CutsOk.nil C) ((Gf.impl_isChoice.e k x).trans hy)

def Gf.impl_Spread.p5  : Nat → Int → Int → Int → Int → List Int → Option (List Int)
  | 0, _, _, _, _, _ => none
  | k + 1, v0, v1, v16, v17, w0 => if decide (v17 < v16) = true then if (v1 != (0 : Int)) = true then if (v1 != (0 : Int)) = true then if decide (v17 < Int.tmod v0 v1) = true then if decide ((List.length w0 + (1 : Nat)) * (8 : Nat) ≤ room) = true then (Gf.impl_Spread.p5 k) v0 v1 v16 (IntKind.wrap IntKind.i64 (v17 + (1 : Int))) (w0 ++ [IntKind.wrap IntKind.i64 (IntKind.wrap IntKind.i64 (Int.tdiv v0 v1) + (1 : Int))]) else none else if decide ((List.length w0 + (1 : Nat)) * (8 : Nat) ≤ room) = true then (Gf.impl_Spread.p5 k) v0 v1 v16 (IntKind.wrap IntKind.i64 (v17 + (1 : Int))) (w0 ++ [IntKind.wrap IntKind.i64 (Int.tdiv v0 v1)]) else none else none else none else some w0
def Gf.impl_Spread.s5 : Shape := ⟨spread 36 0 [(0, .one (.int .i64)), (1, .one (.int .i64)), (5, .one (.ref 0)), (16, .one (.int .i64)), (17, .one (.int .i64))], [], [(3, (.int .i64))], 0, 0⟩
def Gf.impl_Spread (k : Nat) (a0 : Int) (a1 : Int) : Option (List Int) := Option.bind (Gf.impl_isNum k a0) fun (r9 : Bool) => if (!r9) = true then some [] else Option.bind (Gf.impl_isChoice k a1) fun (r13 : Bool) => if (!r13) = true then some [] else (Gf.impl_Spread.p5 k) a0 a1 a1 (0 : Int) []
def Gf.impl_Spread.c (k : Nat) : Ctr := ⟨[.vw (.int .i64), .vw (.int .i64)], [(.slice 3 (.int .i64))], false, false, fun (x : (Int) × (Int)) => Gf.impl_Spread k x.1 x.2⟩
theorem Gf.impl_Spread.e5  (k : Nat) (d : DTs.den Gf.impl_Spread.s5.ds) : runPiece Gf.tt [(37, Gf.impl_isNum.c k), (38, Gf.impl_isChoice.c k)] (retF Gf.tt Go.Proofs.Try.f16 [.vw (.int .i64), .vw (.int .i64)] [(.slice 3 (.int .i64))] false false) [(5, Gf.impl_Spread.s5.cut fun d => (Gf.impl_Spread.p5 k) d.1 d.2.1 d.2.2.1 d.2.2.2.1 d.2.2.2.2.1)] 3000 5 (bodyOf Go.Proofs.Try.f16) (Gf.impl_Spread.s5.fill d) = Gf.impl_Spread.p5 (k + 1) d.1 d.2.1 d.2.2.1 d.2.2.2.1 d.2.2.2.2.1 := by kernel_rfl
theorem Gf.impl_Spread.e (k : Nat) (x : Tys.den (tysOf [.vw (.int .i64), .vw (.int .i64)])) : runFn Gf.tt [(37, Gf.impl_isNum.c k), (38, Gf.impl_isChoice.c k)] Go.Proofs.Try.f16 [.vw (.int .i64), .vw (.int .i64)] [(.slice 3 (.int .i64))] false false [(5, Gf.impl_Spread.s5.cut fun d => (Gf.impl_Spread.p5 k) d.1 d.2.1 d.2.2.1 d.2.2.2.1 d.2.2.2.2.1)] 3000 x = (Gf.impl_Spread.c k).F x := by kernel_rfl
theorem Gf.impl_Spread.o5 {C : Cx (Tys.den (app [(.slice 3 (.int .i64))] (outsOf [.vw (.int .i64), .vw (.int .i64)])))} (h : FnCx C Gf.tt (fun k => [(37, Gf.impl_isNum.c k), (38, Gf.impl_isChoice.c k)]) (bodyOf Go.Proofs.Try.f16) (retF Gf.tt Go.Proofs.Try.f16 [.vw (.int .i64), .vw (.int .i64)] [(.slice 3 (.int .i64))] false false))   : ∀ k, C.CutOk 5 (Gf.impl_Spread.s5.cut fun d => Gf.impl_Spread.p5 k d.1 d.2.1 d.2.2.1 d.2.2.2.1 d.2.2.2.2.1) :=
  FnCx.loop (fun d => rfl) fun k ih => h.piece k (by kernel_rfl) (.cons ih (Cx.CutsOk.nil C)) (Gf.impl_Spread.e5 k)
theorem Gf.impl_Spread.ok (k : Nat) : CtrOk Go.Proofs.Try.prog Gf.By 16 (Gf.impl_Spread.c k) :=
  fn_ctr (Γ := fun k => [(37, Gf.impl_isNum.c k), (38, Gf.impl_isChoice.c k)]) Gf.hT (fun _ => rfl) Go.Proofs.Try.func16 (by kernel_rfl) (fun k => (.cons (Gf.impl_isNum.ok k) (.cons (Gf.impl_isChoice.ok k) CtrsOk.nil))) (draws_ok Gf.mixed fun k => by kernel_rfl) fun C h x y hy => h.entry k (.cons (Gf.impl_Spread.o5 h k) (Cx.CutsOk.nil C)) ((Gf.impl_Spread.e k x).trans hy)

def Gf.laws_markIntS.p2  : Nat → Int → Int → List Int → Option (Int × List Int)
  | 0, _, _, _ => none
  | k + 1, v1, v5, w0 => if decide (v5 < (↑(List.length w0) : Int)) = true then if (decide ((0 : Int) ≤ v5) && decide (v5 < (↑(List.length w0) : Int))) = true then (Gf.laws_markIntS.p2 k) (IntKind.wrap IntKind.i64 (v1 + (1 : Int))) (IntKind.wrap IntKind.i64 (v5 + (1 : Int))) (List.modify w0 (Int.toNat v5) fun (x : Int) => v1) else none else some (v1, w0)
def Gf.laws_markIntS.s2 : Shape := ⟨spread 19 0 [(0, .one (.ref 0)), (1, .one (.int .i64)), (5, .one (.int .i64))], [], [(3, (.int .i64))], 0, 0⟩
def Gf.laws_markIntS (k : Nat) (a0 : List Int) (a1 : Int) : Option (Int × List Int) := (Gf.laws_markIntS.p2 k) a1 (0 : Int) a0
def Gf.laws_markIntS.c (k : Nat) : Ctr := ⟨[.mut (.slice 3 (.int .i64)), .vw (.int .i64)], [(.int .i64)], false, false, fun (x : (List Int) × (Int)) => Gf.laws_markIntS k x.1 x.2⟩
theorem Gf.laws_markIntS.e2  (k : Nat) (d : DTs.den Gf.laws_markIntS.s2.ds) : runPiece Gf.tt [] (retF Gf.tt Go.Proofs.Try.f17 [.mut (.slice 3 (.int .i64)), .vw (.int .i64)] [(.int .i64)] false false) [(2, Gf.laws_markIntS.s2.cut fun d => (Gf.laws_markIntS.p2 k) d.1 d.2.1 d.2.2.1)] 3000 2 (bodyOf Go.Proofs.Try.f17) (Gf.laws_markIntS.s2.fill d) = Gf.laws_markIntS.p2 (k + 1) d.1 d.2.1 d.2.2.1 := by kernel_rfl
theorem Gf.laws_markIntS.e (k : Nat) (x : Tys.den (tysOf [.mut (.slice 3 (.int .i64)), .vw (.int .i64)])) : runFn Gf.tt [] Go.Proofs.Try.f17 [.mut (.slice 3 (.int .i64)), .vw (.int .i64)] [(.int .i64)] false false [(2, Gf.laws_markIntS.s2.cut fun d => (Gf.laws_markIntS.p2 k) d.1 d.2.1 d.2.2.1)] 3000 x = (Gf.laws_markIntS.c k).F x := by kernel_rfl
theorem Gf.laws_markIntS.o2 {C : Cx (Tys.den (app [(.int .i64)] (outsOf [.mut (.slice 3 (.int .i64)), .vw (.int .i64)])))} (h : FnCx C Gf.tt (fun k => []) (bodyOf Go.Proofs.Try.f17) (retF Gf.tt Go.Proofs.Try.f17 [.mut (.slice 3 (.int .i64)), .vw (.int .i64)] [(.int .i64)] false false))   : ∀ k, C.CutOk 2 (Gf.laws_markIntS.s2.cut fun d => Gf.laws_markIntS.p2 k d.1 d.2.1 d.2.2.1) :=
  FnCx.loop (fun d => rfl) fun k ih => h.piece k (by kernel_rfl) (.cons ih (Cx.CutsOk.nil C)) (Gf.laws_markIntS.e2 k)
theorem Gf.laws_markIntS.ok (k : Nat) : CtrOk Go.Proofs.Try.prog Gf.By 17 (Gf.laws_markIntS.c k) :=
  fn_ctr (Γ := fun k => []) Gf.hT (fun _ => rfl) Go.Proofs.Try.func17 (by kernel_rfl) (fun k => CtrsOk.nil) (draws_ok Gf.mixed fun k => by kernel_rfl) fun C h x y hy => h.entry k (.cons (Gf.laws_markIntS.o2 h k) (Cx.CutsOk.nil C)) ((Gf.laws_markIntS.e k x).trans hy)

def Gf.laws_heldIntS.p2  : Nat → List Int → Int → Int → Option Int
  | 0, _, _, _ => none
  | k + 1, v0, v1, v5 => if decide (v5 < (↑(List.length v0) : Int)) = true then if (decide ((0 : Int) ≤ v5) && decide (v5 < (↑(List.length v0) : Int))) = true then if (List.getD v0 (Int.toNat v5) (0 : Int) != v1) = true then some (-1 : Int) else (Gf.laws_heldIntS.p2 k) v0 (IntKind.wrap IntKind.i64 (v1 + (1 : Int))) (IntKind.wrap IntKind.i64 (v5 + (1 : Int))) else none else some v1
def Gf.laws_heldIntS.s2 : Shape := ⟨spread 21 0 [(0, .one (.vw [] 3 (.int .i64))), (1, .one (.int .i64)), (5, .one (.int .i64))], [], [], 0, 0⟩
def Gf.laws_heldIntS (k : Nat) (a0 : List Int) (a1 : Int) : Option Int := (Gf.laws_heldIntS.p2 k) a0 a1 (0 : Int)
def Gf.laws_heldIntS.c (k : Nat) : Ctr := ⟨[.vw (.slice 3 (.int .i64)), .vw (.int .i64)], [(.int .i64)], false, false, fun (x : (List Int) × (Int)) => Gf.laws_heldIntS k x.1 x.2⟩
theorem Gf.laws_heldIntS.e2  (k : Nat) (d : DTs.den Gf.laws_heldIntS.s2.ds) : runPiece Gf.tt [] (retF Gf.tt Go.Proofs.Try.f18 [.vw (.slice 3 (.int .i64)), .vw (.int .i64)] [(.int .i64)] false false) [(2, Gf.laws_heldIntS.s2.cut fun d => (Gf.laws_heldIntS.p2 k) d.1 d.2.1 d.2.2.1)] 3000 2 (bodyOf Go.Proofs.Try.f18) (Gf.laws_heldIntS.s2.fill d) = Gf.laws_heldIntS.p2 (k + 1) d.1 d.2.1 d.2.2.1 := by kernel_rfl
theorem Gf.laws_heldIntS.e (k : Nat) (x : Tys.den (tysOf [.vw (.slice 3 (.int .i64)), .vw (.int .i64)])) : runFn Gf.tt [] Go.Proofs.Try.f18 [.vw (.slice 3 (.int .i64)), .vw (.int .i64)] [(.int .i64)] false false [(2, Gf.laws_heldIntS.s2.cut fun d => (Gf.laws_heldIntS.p2 k) d.1 d.2.1 d.2.2.1)] 3000 x = (Gf.laws_heldIntS.c k).F x := by kernel_rfl
theorem Gf.laws_heldIntS.o2 {C : Cx (Tys.den (app [(.int .i64)] (outsOf [.vw (.slice 3 (.int .i64)), .vw (.int .i64)])))} (h : FnCx C Gf.tt (fun k => []) (bodyOf Go.Proofs.Try.f18) (retF Gf.tt Go.Proofs.Try.f18 [.vw (.slice 3 (.int .i64)), .vw (.int .i64)] [(.int .i64)] false false))   : ∀ k, C.CutOk 2 (Gf.laws_heldIntS.s2.cut fun d => Gf.laws_heldIntS.p2 k d.1 d.2.1 d.2.2.1) :=
  FnCx.loop (fun d => rfl) fun k ih => h.piece k (by kernel_rfl) (.cons ih (Cx.CutsOk.nil C)) (Gf.laws_heldIntS.e2 k)
theorem Gf.laws_heldIntS.ok (k : Nat) : CtrOk Go.Proofs.Try.prog Gf.By 18 (Gf.laws_heldIntS.c k) :=
  fn_ctr (Γ := fun k => []) Gf.hT (fun _ => rfl) Go.Proofs.Try.func18 (by kernel_rfl) (fun k => CtrsOk.nil) (draws_ok Gf.mixed fun k => by kernel_rfl) fun C h x y hy => h.entry k (.cons (Gf.laws_heldIntS.o2 h k) (Cx.CutsOk.nil C)) ((Gf.laws_heldIntS.e k x).trans hy)

def Gf.laws_FnExactSpread (k : Nat) (a0 : Int) (a1 : Int) : Option Bool := Option.bind (Gf.spec_Spread k a0 a1) fun (r12 : List Int) => Option.bind (Gf.impl_Spread k a0 a1) fun (r15 : List Int) => Option.bind (Gf.laws_eqIntS k r15 r12) fun (r18 : Bool) => if (!r18) = true then some false else Option.bind (Gf.laws_markIntS k r15 (1 : Int)) fun (r22 : Int × List Int) => Option.bind (Gf.laws_heldIntS k r22.snd (1 : Int)) fun (r25 : Int) => if decide (r25 < (0 : Int)) = true then some false else if (r25 != r22.fst) = true then some false else Option.bind (Gf.impl_Spread k a0 a1) fun (r33 : List Int) => Option.bind (Gf.laws_eqIntS k r33 r12) fun (r36 : Bool) => if (!r36) = true then some false else Option.bind (Gf.laws_heldIntS k r22.snd (1 : Int)) fun (r40 : Int) => if decide (r40 < (0 : Int)) = true then some false else if (r40 != r22.fst) = true then some false else some true
def Gf.laws_FnExactSpread.c (k : Nat) : Ctr := ⟨[.vw (.int .i64), .vw (.int .i64)], [.bool], false, false, fun (x : (Int) × (Int)) => Gf.laws_FnExactSpread k x.1 x.2⟩
theorem Gf.laws_FnExactSpread.e (k : Nat) (x : Tys.den (tysOf [.vw (.int .i64), .vw (.int .i64)])) : runFn Gf.tt [(14, Gf.laws_eqIntS.c k), (15, Gf.spec_Spread.c k), (16, Gf.impl_Spread.c k), (17, Gf.laws_markIntS.c k), (18, Gf.laws_heldIntS.c k)] Go.Proofs.Try.f4 [.vw (.int .i64), .vw (.int .i64)] [.bool] false false [] 3000 x = (Gf.laws_FnExactSpread.c k).F x := by kernel_rfl
theorem Gf.laws_FnExactSpread.ok (k : Nat) : CtrOk Go.Proofs.Try.prog Gf.By 4 (Gf.laws_FnExactSpread.c k) :=
  fn_ctr (Γ := fun k => [(14, Gf.laws_eqIntS.c k), (15, Gf.spec_Spread.c k), (16, Gf.impl_Spread.c k), (17, Gf.laws_markIntS.c k), (18, Gf.laws_heldIntS.c k)]) Gf.hT (fun _ => rfl) Go.Proofs.Try.func4 (by kernel_rfl) (fun k => (.cons (Gf.laws_eqIntS.ok k) (.cons (Gf.spec_Spread.ok k) (.cons (Gf.impl_Spread.ok k) (.cons (Gf.laws_markIntS.ok k) (.cons (Gf.laws_heldIntS.ok k) CtrsOk.nil)))))) (draws_ok Gf.mixed fun k => by kernel_rfl) fun C h x y hy => h.entry k (Cx.CutsOk.nil C) ((Gf.laws_FnExactSpread.e k x).trans hy)

