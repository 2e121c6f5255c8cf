/-
Helper texts: Helper text, written by a program of ours (gen.py): what Go functions do, as predicates on worlds. Helper text: cells: what the copying, comparing and measuring functions do. Helper text: comparing, marking and holding cells. Helper text: cells that are owned: reading and writing them; marks. Helper text: ranges, digits, sizes, leaves, copies. Helper text: leaves, greatest kids, copies of kids. No condition.
-/
import Derived.Test.YtboccoihmginiaaM3
import Derived.Laws.BitsLemmas
import Derived.Laws.Bits64
namespace Go.Proofs.Ytboccoihmginiaa
open Go.RowKit Go.Sol
set_option linter.unusedVariables false
set_option linter.unusedSimpArgs false

/-! ### laws.FnPictures/3 -/
def f3_laws_FnPictures.J6 (R : Value → World → Prop) (y107 : Sl × Bool) (next130 : (Int) → Tm) (s5_116 : Int) (j6_17 : ByteArray) : Tm :=
  T.idx y107.1 s5_116 1 fun (p167 : Addr) => T.ldc p167 Value.string fun (x168 : ByteArray) => T.ite (!(x168.toList == j6_17.toList)) (T.ret R (.bool false)) (next130 (IntKind.i64.wrap (s5_116 + 1)))
def f3_laws_FnPictures.J7 (R : Value → World → Prop) (y17 : Sl × Sl × Int × Int × Int × ByteArray) (y107 : Sl × Bool) (next130 : (Int) → Tm) (s5_116 : Int) (x153 : ByteArray) (j7_130 : Bool) : Tm :=
  T.ite j7_130 (f3_laws_FnPictures.J6 R y107 next130 s5_116 y17.2.2.2.2.2) (f3_laws_FnPictures.J6 R y107 next130 s5_116 x153)
def f3_laws_FnPictures.L5 (R : Value → World → Prop) (y17 : Sl × Sl × Int × Int × Int × ByteArray) (next82 : (Int) → Tm) (s3_86 : Int) (y103 : Sl × Bool) (y107 : Sl × Bool) (s5_116 : Int) (next130 : (Int) → Tm) : Tm :=
  T.ite (decide (s5_116 < (y103.1.n : Int))) (T.idx y103.1 s5_116 1 fun (p152 : Addr) => T.ldc p152 Value.string fun (x153 : ByteArray) => T.ite (s3_86 == y17.2.2.2.1) (f3_laws_FnPictures.J7 R y17 y107 next130 s5_116 x153 (s5_116 == y17.2.2.2.2.1)) (f3_laws_FnPictures.J7 R y17 y107 next130 s5_116 x153 false)) (next82 (IntKind.i64.wrap (s3_86 + 1)))
def f3_laws_FnPictures.J4 (R : Value → World → Prop) (y17 : Sl × Sl × Int × Int × Int × ByteArray) (next82 : (Int) → Tm) (s3_86 : Int) (y103 : Sl × Bool) (y107 : Sl × Bool) (j4_113 : Bool) : Tm :=
  T.ite j4_113 (T.ret R (.bool false)) (T.loop (fun (s : Int) next => f3_laws_FnPictures.L5 R y17 next82 s3_86 y103 y107 s (fun (z0 : Int) => next z0)) 0)
def f3_laws_FnPictures.J8 (R : Value → World → Prop) (j8_2 : Bool) : Tm :=
  T.ret R (.bool j8_2)
def f3_laws_FnPictures.L3 (R : Value → World → Prop) (y17 : Sl × Sl × Int × Int × Int × ByteArray) (y23 : Sl × Sl × Int × Bool) (s3_86 : Int) (next82 : (Int) → Tm) : Tm :=
  T.ite (decide (s3_86 < (y17.2.1.n : Int))) (T.call Try.prog 10 [.agg #[Sl.v y17.1, Sl.v y17.2.1, .int .i64 y17.2.2.1], .int .i64 s3_86] (fun (z : Sl × Bool) => .tuple #[Sl.v z.1, .bool z.2]) fun (y103 : Sl × Bool) => T.call Try.prog 10 [.agg #[Sl.v y23.1, Sl.v y23.2.1, .int .i64 y23.2.2.1], .int .i64 s3_86] (fun (z : Sl × Bool) => .tuple #[Sl.v z.1, .bool z.2]) fun (y107 : Sl × Bool) => T.ite (!y103.2) (f3_laws_FnPictures.J4 R y17 next82 s3_86 y103 y107 true) (T.ite (!y107.2) (f3_laws_FnPictures.J4 R y17 next82 s3_86 y103 y107 true) (f3_laws_FnPictures.J4 R y17 next82 s3_86 y103 y107 ((y103.1.n : Int) != (y107.1.n : Int))))) (T.call Try.prog 11 [.agg #[Sl.v y23.1, Sl.v y23.2.1, .int .i64 y23.2.2.1], .int .i64 y17.2.2.2.1, .int .i64 y17.2.2.2.2.1] (fun (z : ByteArray × Bool) => .tuple #[.string z.1, .bool z.2]) fun (y177 : ByteArray × Bool) => T.call Try.prog 12 [.agg #[Sl.v y17.1, Sl.v y17.2.1, .int .i64 y17.2.2.1]] (fun (z : Int × Bool) => .tuple #[.int .i64 z.1, .bool z.2]) fun (y181 : Int × Bool) => T.call Try.prog 12 [.agg #[Sl.v y23.1, Sl.v y23.2.1, .int .i64 y23.2.2.1]] (fun (z : Int × Bool) => .tuple #[.int .i64 z.1, .bool z.2]) fun (y185 : Int × Bool) => T.ite y177.2 (T.ite y181.2 (T.ite y185.2 (T.ite (y177.1.toList == y17.2.2.2.2.2.toList) (f3_laws_FnPictures.J8 R  (decide (y185.1 ≤ (IntKind.i64.wrap (y181.1 + y17.2.2.1))))) (f3_laws_FnPictures.J8 R  false)) (f3_laws_FnPictures.J8 R  false)) (f3_laws_FnPictures.J8 R  false)) (f3_laws_FnPictures.J8 R  false))
def f3_laws_FnPictures.J2 (R : Value → World → Prop) (y17 : Sl × Sl × Int × Int × Int × ByteArray) (y23 : Sl × Sl × Int × Bool) (j2_82 : Bool) : Tm :=
  T.ite j2_82 (T.ret R (.bool false)) (T.loop (fun (s : Int) next => f3_laws_FnPictures.L3 R y17 y23 s (fun (z0 : Int) => next z0)) 0)
def f3_laws_FnPictures.J1 (R : Value → World → Prop) (y17 : Sl × Sl × Int × Int × Int × ByteArray) (y23 : Sl × Sl × Int × Bool) (j1_59 : Bool) : Tm :=
  T.ite j1_59 (T.ret R (.bool false)) (T.ite (!y23.2.2.2) (T.ret R (.bool ((y23.2.1.n : Int) == 0))) (T.call Try.prog 8 [.agg #[Sl.v y23.1, Sl.v y23.2.1, .int .i64 y23.2.2.1]] Value.bool fun (y61 : Bool) => T.ite (!y61) (f3_laws_FnPictures.J2 R y17 y23 true) (T.call Try.prog 9 [.agg #[Sl.v y23.1, Sl.v y23.2.1, .int .i64 y23.2.2.1]] Value.bool fun (y63 : Bool) => T.ite (!y63) (f3_laws_FnPictures.J2 R y17 y23 true) (f3_laws_FnPictures.J2 R y17 y23 ((y23.2.1.n : Int) != (y17.2.1.n : Int))))))
def f3_laws_FnPictures.T (R : Value → World → Prop) (a0 : Sl) : Tm :=
  T.ite (decide (1048576 < (a0.n : Int))) (T.ret R (.bool true)) (T.call Try.prog 5 [Sl.v a0] (fun (z : Sl × Sl × Int × Int × Int × ByteArray) => .tuple #[.agg #[Sl.v z.1, Sl.v z.2.1, .int .i64 z.2.2.1], .int .i64 z.2.2.2.1, .int .i64 z.2.2.2.2.1, .string z.2.2.2.2.2]) fun (y17 : Sl × Sl × Int × Int × Int × ByteArray) => T.call Try.prog 6 [.agg #[Sl.v y17.1, Sl.v y17.2.1, .int .i64 y17.2.2.1], .int .i64 y17.2.2.2.1, .int .i64 y17.2.2.2.2.1, .string y17.2.2.2.2.2] (fun (z : Sl × Sl × Int × Bool) => .tuple #[.agg #[Sl.v z.1, Sl.v z.2.1, .int .i64 z.2.2.1], .bool z.2.2.2]) fun (y23 : Sl × Sl × Int × Bool) => T.call Try.prog 7 [.agg #[Sl.v y17.1, Sl.v y17.2.1, .int .i64 y17.2.2.1], .int .i64 y17.2.2.2.1, .int .i64 y17.2.2.2.2.1, .string y17.2.2.2.2.2] (fun (z : Sl × Sl × Int × Bool) => .tuple #[.agg #[Sl.v z.1, Sl.v z.2.1, .int .i64 z.2.2.1], .bool z.2.2.2]) fun (y29 : Sl × Sl × Int × Bool) => T.ite (!(y23.2.2.2 == y29.2.2.2)) (f3_laws_FnPictures.J1 R y17 y23 true) (T.callq Try.prog 8 [.agg #[Sl.v y17.1, Sl.v y17.2.1, .int .i64 y17.2.2.1]] Value.bool fun (y39 : Bool) => T.callq Try.prog 9 [.agg #[Sl.v y17.1, Sl.v y17.2.1, .int .i64 y17.2.2.1]] Value.bool fun (y40 : Bool) => f3_laws_FnPictures.J1 R y17 y23 (!(y39 == y40))))
set_option maxHeartbeats 4000000 in
set_option maxRecDepth 100000 in
theorem f3_laws_FnPictures.ok (R : Value → World → Prop) (a0 : Sl) (w : World) (h : Aft w (fun _ => False) (f3_laws_FnPictures.T R a0)) :
    Calls Try.prog 3 (List.toArray [Sl.v a0]) w fun e w' => ∃ v, e = .returned v ∧ R v w' := by
  refine enter 177 Try.func3 rfl rfl rfl ?_
  have B := Bx.nil w
  have H := h
  clear h
  refine c_seq (fun Q3 n1 o2 => ?_)
  refine c_region ?_
  refine stp (v := .bool false) rfl rfl (r_assign rfl rfl) ?_
  refine fin ?_
  refine n1 _ _ ?_
  refine c_seq (fun Q6 n4 o5 => ?_)
  refine c_seq (fun Q9 n7 o8 => ?_)
  refine c_region ?_
  refine stp (v := Sl.v a0) rfl rfl (r_move rfl rfl) ?_
  refine stp (v := .int .i64 (a0.n : Int)) rfl rfl (r_builtin (vs := [Sl.v a0]) rfl rfl (fun _ => lenl Try.underlying22)) ?_
  refine stp (v := .bool (decide (1048576 < (a0.n : Int)))) rfl rfl (r_gtr (a := (a0.n : Int)) (b := 1048576) rfl rfl rfl) ?_
  refine fin ?_
  refine n7 _ _ ?_
  refine c_cond (b := decide (1048576 < (a0.n : Int))) rfl (fun hb10 => ?_) (fun hb10 => ?_)
  · replace H := at_itet hb10 H
    refine c_seq (fun Q13 n11 o12 => ?_)
    refine c_region ?_
    refine stp (v := .bool true) rfl rfl (r_assign rfl rfl) ?_
    refine fin ?_
    refine n11 _ _ ?_
    refine c_ret (o5 _ _ _ nofun ((done (vs := [.bool true]) (.tmp rfl .nil) rfl ⟨_, rfl, H.now⟩)))
  · replace H := at_itef hb10 H
    refine c_skip ?_
    refine n4 _ _ ?_
    refine c_seq (fun Q16 n14 o15 => ?_)
    refine c_region ?_
    refine stp (v := Sl.v a0) rfl rfl (r_move rfl rfl) ?_
    refine stpc rfl rfl (r_call (vs := [Sl.v a0]) rfl rfl (ca5 _ _)) ?_
    refine at_call B H (fun y17 w B H => ?_)
    refine stp (v := .tuple #[.agg #[Sl.v y17.1, Sl.v y17.2.1, .int .i64 y17.2.2.1], .int .i64 y17.2.2.2.1, .int .i64 y17.2.2.2.2.1, .string y17.2.2.2.2.2]) rfl rfl (r_move rfl rfl) ?_
    refine stp (v := .agg #[Sl.v y17.1, Sl.v y17.2.1, .int .i64 y17.2.2.1]) rfl rfl (r_extract (v1 := .tuple #[.agg #[Sl.v y17.1, Sl.v y17.2.1, .int .i64 y17.2.2.1], .int .i64 y17.2.2.2.1, .int .i64 y17.2.2.2.2.1, .string y17.2.2.2.2.2]) rfl rfl rfl) ?_
    refine stp (v := .int .i64 y17.2.2.2.1) rfl rfl (r_extract (v1 := .tuple #[.agg #[Sl.v y17.1, Sl.v y17.2.1, .int .i64 y17.2.2.1], .int .i64 y17.2.2.2.1, .int .i64 y17.2.2.2.2.1, .string y17.2.2.2.2.2]) rfl rfl rfl) ?_
    refine stp (v := .int .i64 y17.2.2.2.2.1) rfl rfl (r_extract (v1 := .tuple #[.agg #[Sl.v y17.1, Sl.v y17.2.1, .int .i64 y17.2.2.1], .int .i64 y17.2.2.2.1, .int .i64 y17.2.2.2.2.1, .string y17.2.2.2.2.2]) rfl rfl rfl) ?_
    refine stp (v := .string y17.2.2.2.2.2) rfl rfl (r_extract (v1 := .tuple #[.agg #[Sl.v y17.1, Sl.v y17.2.1, .int .i64 y17.2.2.1], .int .i64 y17.2.2.2.1, .int .i64 y17.2.2.2.2.1, .string y17.2.2.2.2.2]) rfl rfl rfl) ?_
    obtain ⟨w18, N, g19, hw, hg, B, H⟩ := B.new H 26 #[Sl.v Sl.nil, Sl.v Sl.nil, .int .i64 0]
    refine stp (v := .pointer (some ⟨g19, 0, none⟩)) (w' := w18) rfl rfl (r_alloc rfl (alloc_run (al26 _) hw hg)) ?_
    clear hw hg
    obtain ⟨w2, hr, B, H⟩ := B.stn H (i := 0) (T := 26) (cs' := #[Sl.v y17.1, Sl.v y17.2.1, .int .i64 y17.2.2.1]) (ad := ⟨g19, 0, none⟩) rfl rfl rfl rfl sz26
    refine stp0 rfl rfl (r_store (v1 := .pointer (some ⟨g19, 0, none⟩)) (v2 := .agg #[Sl.v y17.1, Sl.v y17.2.1, .int .i64 y17.2.2.1]) rfl rfl rfl hr) ?_
    replace B : Bx _ _ [⟨g19, 26, #[Sl.v y17.1, Sl.v y17.2.1, .int .i64 y17.2.2.1]⟩] := B
    clear hr
    refine stp (v := .int .i64 y17.2.2.2.1) rfl rfl (r_assign rfl rfl) ?_
    refine stp (v := .int .i64 y17.2.2.2.2.1) rfl rfl (r_assign rfl rfl) ?_
    refine stp (v := .string y17.2.2.2.2.2) rfl rfl (r_assign rfl rfl) ?_
    refine fin ?_
    refine n14 _ _ ?_
    refine c_seq (fun Q22 n20 o21 => ?_)
    refine c_region ?_
    refine stp (v := .agg #[Sl.v y17.1, Sl.v y17.2.1, .int .i64 y17.2.2.1]) rfl rfl (r_load (v1 := .pointer (some ⟨g19, 0, none⟩)) rfl rfl (bxn (B.get 0 rfl) Try.underlying26 rfl sz26)) ?_
    refine stp (v := .int .i64 y17.2.2.2.1) rfl rfl (r_move rfl rfl) ?_
    refine stp (v := .int .i64 y17.2.2.2.2.1) rfl rfl (r_move rfl rfl) ?_
    refine stp (v := .string y17.2.2.2.2.2) rfl rfl (r_move rfl rfl) ?_
    refine stpc rfl rfl (r_call (vs := [.agg #[Sl.v y17.1, Sl.v y17.2.1, .int .i64 y17.2.2.1], .int .i64 y17.2.2.2.1, .int .i64 y17.2.2.2.2.1, .string y17.2.2.2.2.2]) rfl rfl (ca6 _ _)) ?_
    refine at_call B H (fun y23 w B H => ?_)
    refine stp (v := .tuple #[.agg #[Sl.v y23.1, Sl.v y23.2.1, .int .i64 y23.2.2.1], .bool y23.2.2.2]) rfl rfl (r_move rfl rfl) ?_
    refine stp (v := .agg #[Sl.v y23.1, Sl.v y23.2.1, .int .i64 y23.2.2.1]) rfl rfl (r_extract (v1 := .tuple #[.agg #[Sl.v y23.1, Sl.v y23.2.1, .int .i64 y23.2.2.1], .bool y23.2.2.2]) rfl rfl rfl) ?_
    refine stp (v := .bool y23.2.2.2) rfl rfl (r_extract (v1 := .tuple #[.agg #[Sl.v y23.1, Sl.v y23.2.1, .int .i64 y23.2.2.1], .bool y23.2.2.2]) rfl rfl rfl) ?_
    obtain ⟨w24, N, g25, hw, hg, B, H⟩ := B.new H 26 #[Sl.v Sl.nil, Sl.v Sl.nil, .int .i64 0]
    refine stp (v := .pointer (some ⟨g25, 0, none⟩)) (w' := w24) rfl rfl (r_alloc rfl (alloc_run (al26 _) hw hg)) ?_
    clear hw hg
    obtain ⟨w2, hr, B, H⟩ := B.stn H (i := 0) (T := 26) (cs' := #[Sl.v y23.1, Sl.v y23.2.1, .int .i64 y23.2.2.1]) (ad := ⟨g25, 0, none⟩) rfl rfl rfl rfl sz26
    refine stp0 rfl rfl (r_store (v1 := .pointer (some ⟨g25, 0, none⟩)) (v2 := .agg #[Sl.v y23.1, Sl.v y23.2.1, .int .i64 y23.2.2.1]) rfl rfl rfl hr) ?_
    replace B : Bx _ _ [⟨g25, 26, #[Sl.v y23.1, Sl.v y23.2.1, .int .i64 y23.2.2.1]⟩, ⟨g19, 26, #[Sl.v y17.1, Sl.v y17.2.1, .int .i64 y17.2.2.1]⟩] := B
    clear hr
    refine stp (v := .bool y23.2.2.2) rfl rfl (r_assign rfl rfl) ?_
    refine fin ?_
    refine n20 _ _ ?_
    refine c_seq (fun Q28 n26 o27 => ?_)
    refine c_region ?_
    refine stp (v := .agg #[Sl.v y17.1, Sl.v y17.2.1, .int .i64 y17.2.2.1]) rfl rfl (r_load (v1 := .pointer (some ⟨g19, 0, none⟩)) rfl rfl (bxn (B.get 1 rfl) Try.underlying26 rfl sz26)) ?_
    refine stp (v := .int .i64 y17.2.2.2.1) rfl rfl (r_move rfl rfl) ?_
    refine stp (v := .int .i64 y17.2.2.2.2.1) rfl rfl (r_move rfl rfl) ?_
    refine stp (v := .string y17.2.2.2.2.2) rfl rfl (r_move rfl rfl) ?_
    refine stpc rfl rfl (r_call (vs := [.agg #[Sl.v y17.1, Sl.v y17.2.1, .int .i64 y17.2.2.1], .int .i64 y17.2.2.2.1, .int .i64 y17.2.2.2.2.1, .string y17.2.2.2.2.2]) rfl rfl (ca7 _ _)) ?_
    refine at_call B H (fun y29 w B H => ?_)
    refine stp (v := .tuple #[.agg #[Sl.v y29.1, Sl.v y29.2.1, .int .i64 y29.2.2.1], .bool y29.2.2.2]) rfl rfl (r_move rfl rfl) ?_
    refine stp (v := .agg #[Sl.v y29.1, Sl.v y29.2.1, .int .i64 y29.2.2.1]) rfl rfl (r_extract (v1 := .tuple #[.agg #[Sl.v y29.1, Sl.v y29.2.1, .int .i64 y29.2.2.1], .bool y29.2.2.2]) rfl rfl rfl) ?_
    refine stp (v := .bool y29.2.2.2) rfl rfl (r_extract (v1 := .tuple #[.agg #[Sl.v y29.1, Sl.v y29.2.1, .int .i64 y29.2.2.1], .bool y29.2.2.2]) rfl rfl rfl) ?_
    obtain ⟨w30, N, g31, hw, hg, B, H⟩ := B.new H 26 #[Sl.v Sl.nil, Sl.v Sl.nil, .int .i64 0]
    refine stp (v := .pointer (some ⟨g31, 0, none⟩)) (w' := w30) rfl rfl (r_alloc rfl (alloc_run (al26 _) hw hg)) ?_
    clear hw hg
    obtain ⟨w2, hr, B, H⟩ := B.stn H (i := 0) (T := 26) (cs' := #[Sl.v y29.1, Sl.v y29.2.1, .int .i64 y29.2.2.1]) (ad := ⟨g31, 0, none⟩) rfl rfl rfl rfl sz26
    refine stp0 rfl rfl (r_store (v1 := .pointer (some ⟨g31, 0, none⟩)) (v2 := .agg #[Sl.v y29.1, Sl.v y29.2.1, .int .i64 y29.2.2.1]) rfl rfl rfl hr) ?_
    replace B : Bx _ _ [⟨g31, 26, #[Sl.v y29.1, Sl.v y29.2.1, .int .i64 y29.2.2.1]⟩, ⟨g25, 26, #[Sl.v y23.1, Sl.v y23.2.1, .int .i64 y23.2.2.1]⟩, ⟨g19, 26, #[Sl.v y17.1, Sl.v y17.2.1, .int .i64 y17.2.2.1]⟩] := B
    clear hr
    refine stp (v := .bool y29.2.2.2) rfl rfl (r_assign rfl rfl) ?_
    refine fin ?_
    refine n26 _ _ ?_
    refine c_seq (fun Q34 n32 o33 => ?_)
    refine c_seqj (fun a w => ∃ (j1_59 : Bool) (g : Nat → Value) (N : NP), a = A 177 (updl g [(3, .pointer (some ⟨g19, 0, none⟩)), (4, .int .i64 y17.2.2.2.1), (5, .int .i64 y17.2.2.2.2.1), (6, .string y17.2.2.2.2.2), (7, .pointer (some ⟨g25, 0, none⟩)), (8, .bool y23.2.2.2), (59, .bool j1_59)]) ∧ Bx w N [⟨g31, 26, #[Sl.v y29.1, Sl.v y29.2.1, .int .i64 y29.2.2.1]⟩, ⟨g25, 26, #[Sl.v y23.1, Sl.v y23.2.1, .int .i64 y23.2.2.1]⟩, ⟨g19, 26, #[Sl.v y17.1, Sl.v y17.2.1, .int .i64 y17.2.2.1]⟩] ∧ Aft w N (f3_laws_FnPictures.J1 R y17 y23 j1_59)) (fun Q37 n35 o36 => ?_) ?_
    ·
      refine c_quiet rfl (by kernel_rfl) ?_
      refine qstp (v := .bool y23.2.2.2) rfl rfl (fun w_ hb_ => (r_move rfl rfl)) ?_
      refine qstp (v := .bool y29.2.2.2) rfl rfl (fun w_ hb_ => (r_move rfl rfl)) ?_
      refine qstp (v := .bool (!(y23.2.2.2 == y29.2.2.2))) rfl rfl (fun w_ hb_ => (r_bneq (s := y23.2.2.2) (t := y29.2.2.2) rfl rfl rfl Try.underlying4)) ?_
      refine qstp (v := .bool (!(y23.2.2.2 == y29.2.2.2))) rfl rfl (fun w_ hb_ => (r_move rfl rfl)) ?_
      rcases Bool.eq_false_or_eq_true (!(y23.2.2.2 == y29.2.2.2)) with hb38 | hb38
      · replace H := at_itet hb38 H
        refine qskp (un rfl rfl rfl rfl (congrArg Value.bool hb38) nofun) rfl ?_
        refine qskp (un rfl rfl rfl rfl (congrArg Value.bool hb38) nofun) rfl ?_
        refine qskp (un rfl rfl rfl rfl (congrArg Value.bool hb38) nofun) rfl ?_
        refine qskp (un rfl rfl rfl rfl (congrArg Value.bool hb38) nofun) rfl ?_
        refine qskp (un rfl rfl rfl rfl (congrArg Value.bool hb38) nofun) rfl ?_
        refine qstp (v := .bool true) rfl rfl (fun w_ hb_ => (r_pickt rfl (congrArg Value.bool hb38) rfl)) ?_
        refine qfin (fun w hb => ?_)
        replace B := B.quiet (Qt.of_below hb)
        replace H := H.step (Nz.of_below hb)
        exact n35 _ _ ⟨true, _, _, fr_self rfl, B, H⟩
      · replace H := at_itef hb38 H
        refine qstp (v := .agg #[Sl.v y17.1, Sl.v y17.2.1, .int .i64 y17.2.2.1]) (wn rfl rfl rfl rfl (congrArg Value.bool hb38)) rfl (fun w_ hb_ => (r_load (v1 := .pointer (some ⟨g19, 0, none⟩)) rfl rfl (bxn ((B.quiet (Qt.of_below hb_)).get 2 rfl) Try.underlying26 rfl sz26))) ?_
        obtain ⟨y39, hC, H'⟩ := at_callq H
        replace H := H'; clear H'
        refine qstpc (v := .bool y39) (wn rfl rfl rfl rfl (congrArg Value.bool hb38)) rfl (fun w_ hb_ => r_call (vs := [.agg #[Sl.v y17.1, Sl.v y17.2.1, .int .i64 y17.2.2.1]]) rfl rfl (ca8 _ _)) (fun w_ hb_ => hC w_ hb_) ?_
        clear hC
        refine qstp (v := .agg #[Sl.v y17.1, Sl.v y17.2.1, .int .i64 y17.2.2.1]) (wn rfl rfl rfl rfl (congrArg Value.bool hb38)) rfl (fun w_ hb_ => (r_load (v1 := .pointer (some ⟨g19, 0, none⟩)) rfl rfl (bxn ((B.quiet (Qt.of_below hb_)).get 2 rfl) Try.underlying26 rfl sz26))) ?_
        obtain ⟨y40, hC, H'⟩ := at_callq H
        replace H := H'; clear H'
        refine qstpc (v := .bool y40) (wn rfl rfl rfl rfl (congrArg Value.bool hb38)) rfl (fun w_ hb_ => r_call (vs := [.agg #[Sl.v y17.1, Sl.v y17.2.1, .int .i64 y17.2.2.1]]) rfl rfl (ca9 _ _)) (fun w_ hb_ => hC w_ hb_) ?_
        clear hC
        refine qstp (v := .bool (!(y39 == y40))) (wn rfl rfl rfl rfl (congrArg Value.bool hb38)) rfl (fun w_ hb_ => (r_bneq (s := y39) (t := y40) rfl rfl rfl Try.underlying4)) ?_
        refine qstp (v := .bool (!(y39 == y40))) rfl rfl (fun w_ hb_ => (r_pickf rfl (congrArg Value.bool hb38) rfl)) ?_
        refine qfin (fun w hb => ?_)
        replace B := B.quiet (Qt.of_below hb)
        replace H := H.step (Nz.of_below hb)
        exact n35 _ _ ⟨!(y39 == y40), _, _, fr_self rfl, B, H⟩
    ·
      rintro _ w ⟨j1_59, g, N, rfl, B, H⟩
      refine c_cond (b := j1_59) rfl (fun hb41 => ?_) (fun hb41 => ?_)
      · replace H := at_itet hb41 H
        refine c_seq (fun Q44 n42 o43 => ?_)
        refine c_region ?_
        refine stp (v := .bool false) rfl rfl (r_assign rfl rfl) ?_
        refine fin ?_
        refine n42 _ _ ?_
        refine c_ret (o33 _ _ _ nofun ((done (vs := [.bool false]) (.tmp rfl .nil) rfl ⟨_, rfl, H.now⟩)))
      · replace H := at_itef hb41 H
        refine c_skip ?_
        refine n32 _ _ ?_
        refine c_seq (fun Q47 n45 o46 => ?_)
        refine c_seq (fun Q50 n48 o49 => ?_)
        refine c_region ?_
        refine stp (v := .bool y23.2.2.2) rfl rfl (r_move rfl rfl) ?_
        refine stp (v := .bool (!y23.2.2.2)) rfl rfl (r_not (b := y23.2.2.2) rfl rfl) ?_
        refine fin ?_
        refine n48 _ _ ?_
        refine c_cond (b := !y23.2.2.2) rfl (fun hb51 => ?_) (fun hb51 => ?_)
        · replace H := at_itet hb51 H
          refine c_seq (fun Q54 n52 o53 => ?_)
          refine c_region ?_
          refine stp (v := .pointer (some ⟨g25, 1, none⟩)) rfl rfl (r_fieldAddr (v1 := .pointer (some ⟨g25, 0, none⟩)) rfl rfl (fld26_1 _ _)) ?_
          refine stp (v := Sl.v y23.2.1) rfl rfl (r_load (v1 := .pointer (some ⟨g25, 1, none⟩)) rfl rfl (ld1 Try.underlying24 rfl (bx1 (B.get 1 rfl) rfl rfl))) ?_
          refine stp (v := .int .i64 (y23.2.1.n : Int)) rfl rfl (r_builtin (vs := [Sl.v y23.2.1]) rfl rfl (fun _ => lenl Try.underlying24)) ?_
          refine stp (v := .bool ((y23.2.1.n : Int) == 0)) rfl rfl (r_eql (a := (y23.2.1.n : Int)) (b := 0) rfl rfl rfl) ?_
          refine stp (v := .bool ((y23.2.1.n : Int) == 0)) rfl rfl (r_assign rfl rfl) ?_
          refine fin ?_
          refine n52 _ _ ?_
          refine c_ret (o46 _ _ _ nofun ((done (vs := [.bool ((y23.2.1.n : Int) == 0)]) (.tmp rfl .nil) rfl ⟨_, rfl, H.now⟩)))
        · replace H := at_itef hb51 H
          refine c_skip ?_
          refine n45 _ _ ?_
          refine c_seq (fun Q57 n55 o56 => ?_)
          refine c_seqj (fun a w => ∃ (j2_82 : Bool) (g : Nat → Value) (N : NP), a = A 177 (updl g [(3, .pointer (some ⟨g19, 0, none⟩)), (4, .int .i64 y17.2.2.2.1), (5, .int .i64 y17.2.2.2.2.1), (6, .string y17.2.2.2.2.2), (7, .pointer (some ⟨g25, 0, none⟩)), (82, .bool j2_82)]) ∧ Bx w N [⟨g31, 26, #[Sl.v y29.1, Sl.v y29.2.1, .int .i64 y29.2.2.1]⟩, ⟨g25, 26, #[Sl.v y23.1, Sl.v y23.2.1, .int .i64 y23.2.2.1]⟩, ⟨g19, 26, #[Sl.v y17.1, Sl.v y17.2.1, .int .i64 y17.2.2.1]⟩] ∧ Aft w N (f3_laws_FnPictures.J2 R y17 y23 j2_82)) (fun Q60 n58 o59 => ?_) ?_
          ·
            refine c_region ?_
            refine stp (v := .agg #[Sl.v y23.1, Sl.v y23.2.1, .int .i64 y23.2.2.1]) rfl rfl (r_load (v1 := .pointer (some ⟨g25, 0, none⟩)) rfl rfl (bxn (B.get 1 rfl) Try.underlying26 rfl sz26)) ?_
            refine stpc rfl rfl (r_call (vs := [.agg #[Sl.v y23.1, Sl.v y23.2.1, .int .i64 y23.2.2.1]]) rfl rfl (ca8 _ _)) ?_
            refine at_call B H (fun y61 w B H => ?_)
            refine stp (v := .bool (!y61)) rfl rfl (r_not (b := y61) rfl rfl) ?_
            refine stp (v := .bool (!y61)) rfl rfl (r_move rfl rfl) ?_
            rcases Bool.eq_false_or_eq_true (!y61) with hb62 | hb62
            · replace H := at_itet hb62 H
              refine skp (un rfl rfl rfl rfl (congrArg Value.bool hb62) nofun) rfl ?_
              refine skp (un rfl rfl rfl rfl (congrArg Value.bool hb62) nofun) rfl ?_
              refine skp (un rfl rfl rfl rfl (congrArg Value.bool hb62) nofun) rfl ?_
              refine stp (v := .bool true) rfl rfl (r_pickt rfl (congrArg Value.bool hb62) rfl) ?_
              refine stp (v := .bool true) rfl rfl (r_move rfl rfl) ?_
              refine skp (un rfl rfl rfl rfl rfl nofun) rfl ?_
              refine skp (un rfl rfl rfl rfl rfl nofun) rfl ?_
              refine skp (un rfl rfl rfl rfl rfl nofun) rfl ?_
              refine skp (un rfl rfl rfl rfl rfl nofun) rfl ?_
              refine skp (un rfl rfl rfl rfl rfl nofun) rfl ?_
              refine skp (un rfl rfl rfl rfl rfl nofun) rfl ?_
              refine skp (un rfl rfl rfl rfl rfl nofun) rfl ?_
              refine stp (v := .bool true) rfl rfl (r_pickt rfl rfl rfl) ?_
              refine fin ?_
              exact n58 _ _ ⟨true, _, _, fr_self rfl, B, H⟩
            · replace H := at_itef hb62 H
              refine stp (v := .agg #[Sl.v y23.1, Sl.v y23.2.1, .int .i64 y23.2.2.1]) (wn rfl rfl rfl rfl (congrArg Value.bool hb62)) rfl (r_load (v1 := .pointer (some ⟨g25, 0, none⟩)) rfl rfl (bxn (B.get 1 rfl) Try.underlying26 rfl sz26)) ?_
              refine stpc (wn rfl rfl rfl rfl (congrArg Value.bool hb62)) rfl (r_call (vs := [.agg #[Sl.v y23.1, Sl.v y23.2.1, .int .i64 y23.2.2.1]]) rfl rfl (ca9 _ _)) ?_
              refine at_call B H (fun y63 w B H => ?_)
              refine stp (v := .bool (!y63)) (wn rfl rfl rfl rfl (congrArg Value.bool hb62)) rfl (r_not (b := y63) rfl rfl) ?_
              refine stp (v := .bool (!y63)) rfl rfl (r_pickf rfl (congrArg Value.bool hb62) rfl) ?_
              refine stp (v := .bool (!y63)) rfl rfl (r_move rfl rfl) ?_
              rcases Bool.eq_false_or_eq_true (!y63) with hb64 | hb64
              · replace H := at_itet hb64 H
                refine skp (un rfl rfl rfl rfl (congrArg Value.bool hb64) nofun) rfl ?_
                refine skp (un rfl rfl rfl rfl (congrArg Value.bool hb64) nofun) rfl ?_
                refine skp (un rfl rfl rfl rfl (congrArg Value.bool hb64) nofun) rfl ?_
                refine skp (un rfl rfl rfl rfl (congrArg Value.bool hb64) nofun) rfl ?_
                refine skp (un rfl rfl rfl rfl (congrArg Value.bool hb64) nofun) rfl ?_
                refine skp (un rfl rfl rfl rfl (congrArg Value.bool hb64) nofun) rfl ?_
                refine skp (un rfl rfl rfl rfl (congrArg Value.bool hb64) nofun) rfl ?_
                refine stp (v := .bool true) rfl rfl (r_pickt rfl (congrArg Value.bool hb64) rfl) ?_
                refine fin ?_
                exact n58 _ _ ⟨true, _, _, fr_self rfl, B, H⟩
              · replace H := at_itef hb64 H
                refine stp (v := .pointer (some ⟨g25, 1, none⟩)) (wn rfl rfl rfl rfl (congrArg Value.bool hb64)) rfl (r_fieldAddr (v1 := .pointer (some ⟨g25, 0, none⟩)) rfl rfl (fld26_1 _ _)) ?_
                refine stp (v := Sl.v y23.2.1) (wn rfl rfl rfl rfl (congrArg Value.bool hb64)) rfl (r_load (v1 := .pointer (some ⟨g25, 1, none⟩)) rfl rfl (ld1 Try.underlying24 rfl (bx1 (B.get 1 rfl) rfl rfl))) ?_
                refine stp (v := .int .i64 (y23.2.1.n : Int)) (wn rfl rfl rfl rfl (congrArg Value.bool hb64)) rfl (r_builtin (vs := [Sl.v y23.2.1]) rfl rfl (fun _ => lenl Try.underlying24)) ?_
                refine stp (v := .pointer (some ⟨g19, 1, none⟩)) (wn rfl rfl rfl rfl (congrArg Value.bool hb64)) rfl (r_fieldAddr (v1 := .pointer (some ⟨g19, 0, none⟩)) rfl rfl (fld26_1 _ _)) ?_
                refine stp (v := Sl.v y17.2.1) (wn rfl rfl rfl rfl (congrArg Value.bool hb64)) rfl (r_load (v1 := .pointer (some ⟨g19, 1, none⟩)) rfl rfl (ld1 Try.underlying24 rfl (bx1 (B.get 2 rfl) rfl rfl))) ?_
                refine stp (v := .int .i64 (y17.2.1.n : Int)) (wn rfl rfl rfl rfl (congrArg Value.bool hb64)) rfl (r_builtin (vs := [Sl.v y17.2.1]) rfl rfl (fun _ => lenl Try.underlying24)) ?_
                refine stp (v := .bool ((y23.2.1.n : Int) != (y17.2.1.n : Int))) (wn rfl rfl rfl rfl (congrArg Value.bool hb64)) rfl (r_neq (a := (y23.2.1.n : Int)) (b := (y17.2.1.n : Int)) rfl rfl rfl) ?_
                refine stp (v := .bool ((y23.2.1.n : Int) != (y17.2.1.n : Int))) rfl rfl (r_pickf rfl (congrArg Value.bool hb64) rfl) ?_
                refine fin ?_
                exact n58 _ _ ⟨(y23.2.1.n : Int) != (y17.2.1.n : Int), _, _, fr_self rfl, B, H⟩
          ·
            rintro _ w ⟨j2_82, g, N, rfl, B, H⟩
            refine c_cond (b := j2_82) rfl (fun hb65 => ?_) (fun hb65 => ?_)
            · replace H := at_itet hb65 H
              refine c_seq (fun Q68 n66 o67 => ?_)
              refine c_region ?_
              refine stp (v := .bool false) rfl rfl (r_assign rfl rfl) ?_
              refine fin ?_
              refine n66 _ _ ?_
              refine c_ret (o56 _ _ _ nofun ((done (vs := [.bool false]) (.tmp rfl .nil) rfl ⟨_, rfl, H.now⟩)))
            · replace H := at_itef hb65 H
              refine c_skip ?_
              refine n55 _ _ ?_
              refine c_seq (fun Q71 n69 o70 => ?_)
              refine c_seq (fun Q74 n72 o73 => ?_)
              refine c_region ?_
              refine stp (v := .pointer (some ⟨g19, 1, none⟩)) rfl rfl (r_fieldAddr (v1 := .pointer (some ⟨g19, 0, none⟩)) rfl rfl (fld26_1 _ _)) ?_
              refine stp (v := Sl.v y17.2.1) rfl rfl (r_load (v1 := .pointer (some ⟨g19, 1, none⟩)) rfl rfl (ld1 Try.underlying24 rfl (bx1 (B.get 2 rfl) rfl rfl))) ?_
              refine stp (v := .int .i64 (y17.2.1.n : Int)) rfl rfl (r_builtin (vs := [Sl.v y17.2.1]) rfl rfl (fun _ => lenl Try.underlying24)) ?_
              refine stp (v := .int .i64 0) rfl rfl (r_move rfl rfl) ?_
              refine fin ?_
              refine n72 _ _ ?_
              refine c_block (fun Q78 n75 x77 o76 => ?_)
              refine c_loop (σ := Int) (s0 := 0) (fun s => [(3, .pointer (some ⟨g19, 0, none⟩)), (4, .int .i64 y17.2.2.2.1), (5, .int .i64 y17.2.2.2.2.1), (6, .string y17.2.2.2.2.2), (7, .pointer (some ⟨g25, 0, none⟩)), (85, .int .i64 (y17.2.1.n : Int)), (86, .int .i64 s)]) (fun s => [⟨g31, 26, #[Sl.v y29.1, Sl.v y29.2.1, .int .i64 y29.2.2.1]⟩, ⟨g25, 26, #[Sl.v y23.1, Sl.v y23.2.1, .int .i64 y23.2.2.1]⟩, ⟨g19, 26, #[Sl.v y17.1, Sl.v y17.2.1, .int .i64 y17.2.2.1]⟩]) B H rfl ?_
              rintro Q81 next82 s3_86 g w N nx79 o80 B H
              refine c_seq (fun Q85 n83 o84 => ?_)
              refine c_region ?_
              refine stp (v := .bool (decide (s3_86 < (y17.2.1.n : Int)))) rfl rfl (r_lss (a := s3_86) (b := (y17.2.1.n : Int)) rfl rfl rfl) ?_
              refine fin ?_
              refine n83 _ _ ?_
              refine c_seq (fun Q88 n86 o87 => ?_)
              refine c_cond (b := decide (s3_86 < (y17.2.1.n : Int))) rfl (fun hb89 => ?_) (fun hb89 => ?_)
              · replace H := at_itet hb89 H
                refine c_skip ?_
                refine n86 _ _ ?_
                refine c_seq (fun Q92 n90 o91 => ?_)
                refine c_block (fun Q96 n93 x95 o94 => ?_)
                refine c_seq (fun Q99 n97 o98 => ?_)
                refine c_region ?_
                refine stp (v := .int .i64 s3_86) rfl rfl (r_move rfl rfl) ?_
                refine stp (v := .int .i64 s3_86) rfl rfl (r_assign rfl rfl) ?_
                refine fin ?_
                refine n97 _ _ ?_
                refine c_seq (fun Q102 n100 o101 => ?_)
                refine c_region ?_
                refine stp (v := .agg #[Sl.v y17.1, Sl.v y17.2.1, .int .i64 y17.2.2.1]) rfl rfl (r_load (v1 := .pointer (some ⟨g19, 0, none⟩)) rfl rfl (bxn (B.get 2 rfl) Try.underlying26 rfl sz26)) ?_
                refine stp (v := .int .i64 s3_86) rfl rfl (r_move rfl rfl) ?_
                refine stpc rfl rfl (r_call (vs := [.agg #[Sl.v y17.1, Sl.v y17.2.1, .int .i64 y17.2.2.1], .int .i64 s3_86]) rfl rfl (ca10 _ _)) ?_
                refine at_call B H (fun y103 w B H => ?_)
                refine stp (v := .tuple #[Sl.v y103.1, .bool y103.2]) rfl rfl (r_move rfl rfl) ?_
                refine stp (v := Sl.v y103.1) rfl rfl (r_extract (v1 := .tuple #[Sl.v y103.1, .bool y103.2]) rfl rfl rfl) ?_
                refine stp (v := .bool y103.2) rfl rfl (r_extract (v1 := .tuple #[Sl.v y103.1, .bool y103.2]) rfl rfl rfl) ?_
                refine stp (v := Sl.v y103.1) rfl rfl (r_assign rfl rfl) ?_
                refine stp (v := .bool y103.2) rfl rfl (r_assign rfl rfl) ?_
                refine fin ?_
                refine n100 _ _ ?_
                refine c_seq (fun Q106 n104 o105 => ?_)
                refine c_region ?_
                refine stp (v := .agg #[Sl.v y23.1, Sl.v y23.2.1, .int .i64 y23.2.2.1]) rfl rfl (r_load (v1 := .pointer (some ⟨g25, 0, none⟩)) rfl rfl (bxn (B.get 1 rfl) Try.underlying26 rfl sz26)) ?_
                refine stp (v := .int .i64 s3_86) rfl rfl (r_move rfl rfl) ?_
                refine stpc rfl rfl (r_call (vs := [.agg #[Sl.v y23.1, Sl.v y23.2.1, .int .i64 y23.2.2.1], .int .i64 s3_86]) rfl rfl (ca10 _ _)) ?_
                refine at_call B H (fun y107 w B H => ?_)
                refine stp (v := .tuple #[Sl.v y107.1, .bool y107.2]) rfl rfl (r_move rfl rfl) ?_
                refine stp (v := Sl.v y107.1) rfl rfl (r_extract (v1 := .tuple #[Sl.v y107.1, .bool y107.2]) rfl rfl rfl) ?_
                refine stp (v := .bool y107.2) rfl rfl (r_extract (v1 := .tuple #[Sl.v y107.1, .bool y107.2]) rfl rfl rfl) ?_
                refine stp (v := Sl.v y107.1) rfl rfl (r_assign rfl rfl) ?_
                refine stp (v := .bool y107.2) rfl rfl (r_assign rfl rfl) ?_
                refine fin ?_
                refine n104 _ _ ?_
                refine c_seq (fun Q110 n108 o109 => ?_)
                refine c_seqj (fun a w => ∃ (j4_113 : Bool) (g : Nat → Value) (N : NP), a = A 177 (updl g [(3, .pointer (some ⟨g19, 0, none⟩)), (4, .int .i64 y17.2.2.2.1), (5, .int .i64 y17.2.2.2.2.1), (6, .string y17.2.2.2.2.2), (7, .pointer (some ⟨g25, 0, none⟩)), (11, .int .i64 s3_86), (12, Sl.v y103.1), (14, Sl.v y107.1), (85, .int .i64 (y17.2.1.n : Int)), (86, .int .i64 s3_86), (113, .bool j4_113)]) ∧ Bx w N [⟨g31, 26, #[Sl.v y29.1, Sl.v y29.2.1, .int .i64 y29.2.2.1]⟩, ⟨g25, 26, #[Sl.v y23.1, Sl.v y23.2.1, .int .i64 y23.2.2.1]⟩, ⟨g19, 26, #[Sl.v y17.1, Sl.v y17.2.1, .int .i64 y17.2.2.1]⟩] ∧ Aft w N (f3_laws_FnPictures.J4 R y17 (fun (z0 : Int) => next82 z0) s3_86 y103 y107 j4_113)) (fun Q113 n111 o112 => ?_) ?_
                ·
                  refine c_region ?_
                  refine stp (v := .bool y103.2) rfl rfl (r_move rfl rfl) ?_
                  refine stp (v := .bool (!y103.2)) rfl rfl (r_not (b := y103.2) rfl rfl) ?_
                  refine stp (v := .bool (!y103.2)) rfl rfl (r_move rfl rfl) ?_
                  rcases Bool.eq_false_or_eq_true (!y103.2) with hb114 | hb114
                  · replace H := at_itet hb114 H
                    refine skp (un rfl rfl rfl rfl (congrArg Value.bool hb114) nofun) rfl ?_
                    refine skp (un rfl rfl rfl rfl (congrArg Value.bool hb114) nofun) rfl ?_
                    refine stp (v := .bool true) rfl rfl (r_pickt rfl (congrArg Value.bool hb114) rfl) ?_
                    refine stp (v := .bool true) rfl rfl (r_move rfl rfl) ?_
                    refine skp (un rfl rfl rfl rfl rfl nofun) rfl ?_
                    refine skp (un rfl rfl rfl rfl rfl nofun) rfl ?_
                    refine skp (un rfl rfl rfl rfl rfl nofun) rfl ?_
                    refine skp (un rfl rfl rfl rfl rfl nofun) rfl ?_
                    refine skp (un rfl rfl rfl rfl rfl nofun) rfl ?_
                    refine stp (v := .bool true) rfl rfl (r_pickt rfl rfl rfl) ?_
                    refine fin ?_
                    exact n111 _ _ ⟨true, _, _, fr_self rfl, B, H⟩
                  · replace H := at_itef hb114 H
                    refine stp (v := .bool y107.2) (wn rfl rfl rfl rfl (congrArg Value.bool hb114)) rfl (r_move rfl rfl) ?_
                    refine stp (v := .bool (!y107.2)) (wn rfl rfl rfl rfl (congrArg Value.bool hb114)) rfl (r_not (b := y107.2) rfl rfl) ?_
                    refine stp (v := .bool (!y107.2)) rfl rfl (r_pickf rfl (congrArg Value.bool hb114) rfl) ?_
                    refine stp (v := .bool (!y107.2)) rfl rfl (r_move rfl rfl) ?_
                    rcases Bool.eq_false_or_eq_true (!y107.2) with hb115 | hb115
                    · replace H := at_itet hb115 H
                      refine skp (un rfl rfl rfl rfl (congrArg Value.bool hb115) nofun) rfl ?_
                      refine skp (un rfl rfl rfl rfl (congrArg Value.bool hb115) nofun) rfl ?_
                      refine skp (un rfl rfl rfl rfl (congrArg Value.bool hb115) nofun) rfl ?_
                      refine skp (un rfl rfl rfl rfl (congrArg Value.bool hb115) nofun) rfl ?_
                      refine skp (un rfl rfl rfl rfl (congrArg Value.bool hb115) nofun) rfl ?_
                      refine stp (v := .bool true) rfl rfl (r_pickt rfl (congrArg Value.bool hb115) rfl) ?_
                      refine fin ?_
                      exact n111 _ _ ⟨true, _, _, fr_self rfl, B, H⟩
                    · replace H := at_itef hb115 H
                      refine stp (v := Sl.v y103.1) (wn rfl rfl rfl rfl (congrArg Value.bool hb115)) rfl (r_move rfl rfl) ?_
                      refine stp (v := .int .i64 (y103.1.n : Int)) (wn rfl rfl rfl rfl (congrArg Value.bool hb115)) rfl (r_builtin (vs := [Sl.v y103.1]) rfl rfl (fun _ => lenl Try.underlying32)) ?_
                      refine stp (v := Sl.v y107.1) (wn rfl rfl rfl rfl (congrArg Value.bool hb115)) rfl (r_move rfl rfl) ?_
                      refine stp (v := .int .i64 (y107.1.n : Int)) (wn rfl rfl rfl rfl (congrArg Value.bool hb115)) rfl (r_builtin (vs := [Sl.v y107.1]) rfl rfl (fun _ => lenl Try.underlying32)) ?_
                      refine stp (v := .bool ((y103.1.n : Int) != (y107.1.n : Int))) (wn rfl rfl rfl rfl (congrArg Value.bool hb115)) rfl (r_neq (a := (y103.1.n : Int)) (b := (y107.1.n : Int)) rfl rfl rfl) ?_
                      refine stp (v := .bool ((y103.1.n : Int) != (y107.1.n : Int))) rfl rfl (r_pickf rfl (congrArg Value.bool hb115) rfl) ?_
                      refine fin ?_
                      exact n111 _ _ ⟨(y103.1.n : Int) != (y107.1.n : Int), _, _, fr_self rfl, B, H⟩
                ·
                  rintro _ w ⟨j4_113, g, N, rfl, B, H⟩
                  refine c_cond (b := j4_113) rfl (fun hb116 => ?_) (fun hb116 => ?_)
                  · replace H := at_itet hb116 H
                    refine c_seq (fun Q119 n117 o118 => ?_)
                    refine c_region ?_
                    refine stp (v := .bool false) rfl rfl (r_assign rfl rfl) ?_
                    refine fin ?_
                    refine n117 _ _ ?_
                    refine c_ret (o109 _ _ _ nofun (o94 _ _ _ nofun (by simp) (o91 _ _ _ nofun (o80 _ _ _ nofun (o76 _ _ _ nofun (by simp) (o70 _ _ _ nofun ((done (vs := [.bool false]) (.tmp rfl .nil) rfl ⟨_, rfl, H.now⟩))))))))
                  · replace H := at_itef hb116 H
                    refine c_skip ?_
                    refine n108 _ _ ?_
                    refine c_seq (fun Q122 n120 o121 => ?_)
                    refine c_region ?_
                    refine stp (v := Sl.v y103.1) rfl rfl (r_move rfl rfl) ?_
                    refine stp (v := .int .i64 (y103.1.n : Int)) rfl rfl (r_builtin (vs := [Sl.v y103.1]) rfl rfl (fun _ => lenl Try.underlying32)) ?_
                    refine stp (v := .int .i64 0) rfl rfl (r_move rfl rfl) ?_
                    refine fin ?_
                    refine n120 _ _ ?_
                    refine c_block (fun Q126 n123 x125 o124 => ?_)
                    refine c_loop (σ := Int) (s0 := 0) (fun s => [(3, .pointer (some ⟨g19, 0, none⟩)), (4, .int .i64 y17.2.2.2.1), (5, .int .i64 y17.2.2.2.2.1), (6, .string y17.2.2.2.2.2), (7, .pointer (some ⟨g25, 0, none⟩)), (11, .int .i64 s3_86), (12, Sl.v y103.1), (14, Sl.v y107.1), (85, .int .i64 (y17.2.1.n : Int)), (86, .int .i64 s3_86), (115, .int .i64 (y103.1.n : Int)), (116, .int .i64 s)]) (fun s => [⟨g31, 26, #[Sl.v y29.1, Sl.v y29.2.1, .int .i64 y29.2.2.1]⟩, ⟨g25, 26, #[Sl.v y23.1, Sl.v y23.2.1, .int .i64 y23.2.2.1]⟩, ⟨g19, 26, #[Sl.v y17.1, Sl.v y17.2.1, .int .i64 y17.2.2.1]⟩]) B H rfl ?_
                    rintro Q129 next130 s5_116 g w N nx127 o128 B H
                    refine c_seq (fun Q133 n131 o132 => ?_)
                    refine c_region ?_
                    refine stp (v := .bool (decide (s5_116 < (y103.1.n : Int)))) rfl rfl (r_lss (a := s5_116) (b := (y103.1.n : Int)) rfl rfl rfl) ?_
                    refine fin ?_
                    refine n131 _ _ ?_
                    refine c_seq (fun Q136 n134 o135 => ?_)
                    refine c_cond (b := decide (s5_116 < (y103.1.n : Int))) rfl (fun hb137 => ?_) (fun hb137 => ?_)
                    · replace H := at_itet hb137 H
                      refine c_skip ?_
                      refine n134 _ _ ?_
                      refine c_seq (fun Q140 n138 o139 => ?_)
                      refine c_block (fun Q144 n141 x143 o142 => ?_)
                      refine c_seq (fun Q147 n145 o146 => ?_)
                      refine c_region ?_
                      refine stp (v := .int .i64 s5_116) rfl rfl (r_move rfl rfl) ?_
                      refine stp (v := .int .i64 s5_116) rfl rfl (r_assign rfl rfl) ?_
                      refine fin ?_
                      refine n145 _ _ ?_
                      refine c_seq (fun Q150 n148 o149 => ?_)
                      refine c_region ?_
                      refine stp (v := Sl.v y103.1) rfl rfl (r_move rfl rfl) ?_
                      refine stp (v := .int .i64 s5_116) rfl rfl (r_move rfl rfl) ?_
                      obtain ⟨p151, p152, he, h0, h1, hpa, H'⟩ := at_idx' H
                      replace H := H'; clear H'
                      refine stp (v := .pointer (some p152)) rfl rfl (r_indexAddr (v1 := Sl.v y103.1) (v2 := .int .i64 s5_116) rfl rfl rfl (ix' Try.underlying32 sz9 he h0 h1 hpa)) ?_
                      clear he h0 h1 hpa
                      obtain ⟨x153, hx154, H'⟩ := at_ldc H
                      replace H := H'; clear H'
                      refine stp (v := .string x153) rfl rfl (r_load (v1 := .pointer (some p152)) rfl rfl (ld1 Try.underlying9 rfl (hx154 _ (Below.refl _ _)))) ?_
                      refine stp (v := .string x153) rfl rfl (r_assign rfl rfl) ?_
                      refine fin ?_
                      refine n148 _ _ ?_
                      refine c_seqj (fun a w => ∃ (j6_17 : ByteArray) (g : Nat → Value) (N : NP), a = A 177 (updl g [(3, .pointer (some ⟨g19, 0, none⟩)), (4, .int .i64 y17.2.2.2.1), (5, .int .i64 y17.2.2.2.2.1), (6, .string y17.2.2.2.2.2), (7, .pointer (some ⟨g25, 0, none⟩)), (11, .int .i64 s3_86), (12, Sl.v y103.1), (14, Sl.v y107.1), (16, .int .i64 s5_116), (17, .string j6_17), (85, .int .i64 (y17.2.1.n : Int)), (86, .int .i64 s3_86), (115, .int .i64 (y103.1.n : Int)), (116, .int .i64 s5_116)]) ∧ Bx w N [⟨g31, 26, #[Sl.v y29.1, Sl.v y29.2.1, .int .i64 y29.2.2.1]⟩, ⟨g25, 26, #[Sl.v y23.1, Sl.v y23.2.1, .int .i64 y23.2.2.1]⟩, ⟨g19, 26, #[Sl.v y17.1, Sl.v y17.2.1, .int .i64 y17.2.2.1]⟩] ∧ Aft w N (f3_laws_FnPictures.J6 R y107 (fun (z0 : Int) => next130 z0) s5_116 j6_17)) (fun Q157 n155 o156 => ?_) ?_
                      ·
                        refine c_seqj (fun a w => ∃ (j7_130 : Bool) (g : Nat → Value) (N : NP), a = A 177 (updl g [(3, .pointer (some ⟨g19, 0, none⟩)), (4, .int .i64 y17.2.2.2.1), (5, .int .i64 y17.2.2.2.2.1), (6, .string y17.2.2.2.2.2), (7, .pointer (some ⟨g25, 0, none⟩)), (11, .int .i64 s3_86), (12, Sl.v y103.1), (14, Sl.v y107.1), (16, .int .i64 s5_116), (17, .string x153), (85, .int .i64 (y17.2.1.n : Int)), (86, .int .i64 s3_86), (115, .int .i64 (y103.1.n : Int)), (116, .int .i64 s5_116), (130, .bool j7_130)]) ∧ Bx w N [⟨g31, 26, #[Sl.v y29.1, Sl.v y29.2.1, .int .i64 y29.2.2.1]⟩, ⟨g25, 26, #[Sl.v y23.1, Sl.v y23.2.1, .int .i64 y23.2.2.1]⟩, ⟨g19, 26, #[Sl.v y17.1, Sl.v y17.2.1, .int .i64 y17.2.2.1]⟩] ∧ Aft w N (f3_laws_FnPictures.J7 R y17 y107 (fun (z0 : Int) => next130 z0) s5_116 x153 j7_130)) (fun Q160 n158 o159 => ?_) ?_
                        ·
                          refine c_region ?_
                          refine stp (v := .int .i64 s3_86) rfl rfl (r_move rfl rfl) ?_
                          refine stp (v := .int .i64 y17.2.2.2.1) rfl rfl (r_move rfl rfl) ?_
                          refine stp (v := .bool (s3_86 == y17.2.2.2.1)) rfl rfl (r_eql (a := s3_86) (b := y17.2.2.2.1) rfl rfl rfl) ?_
                          refine stp (v := .bool (s3_86 == y17.2.2.2.1)) rfl rfl (r_move rfl rfl) ?_
                          rcases Bool.eq_false_or_eq_true (s3_86 == y17.2.2.2.1) with hb161 | hb161
                          · replace H := at_itet hb161 H
                            refine stp (v := .int .i64 s5_116) (wn rfl rfl rfl rfl (congrArg Value.bool hb161)) rfl (r_move rfl rfl) ?_
                            refine stp (v := .int .i64 y17.2.2.2.2.1) (wn rfl rfl rfl rfl (congrArg Value.bool hb161)) rfl (r_move rfl rfl) ?_
                            refine stp (v := .bool (s5_116 == y17.2.2.2.2.1)) (wn rfl rfl rfl rfl (congrArg Value.bool hb161)) rfl (r_eql (a := s5_116) (b := y17.2.2.2.2.1) rfl rfl rfl) ?_
                            refine stp (v := .bool (s5_116 == y17.2.2.2.2.1)) rfl rfl (r_pickt rfl (congrArg Value.bool hb161) rfl) ?_
                            refine fin ?_
                            exact n158 _ _ ⟨s5_116 == y17.2.2.2.2.1, _, _, fr_self rfl, B, H⟩
                          · replace H := at_itef hb161 H
                            refine skp (un rfl rfl rfl rfl (congrArg Value.bool hb161) nofun) rfl ?_
                            refine skp (un rfl rfl rfl rfl (congrArg Value.bool hb161) nofun) rfl ?_
                            refine skp (un rfl rfl rfl rfl (congrArg Value.bool hb161) nofun) rfl ?_
                            refine stp (v := .bool false) rfl rfl (r_pickf rfl (congrArg Value.bool hb161) rfl) ?_
                            refine fin ?_
                            exact n158 _ _ ⟨false, _, _, fr_self rfl, B, H⟩
                        ·
                          rintro _ w ⟨j7_130, g, N, rfl, B, H⟩
                          refine c_cond (b := j7_130) rfl (fun hb162 => ?_) (fun hb162 => ?_)
                          · replace H := at_itet hb162 H
                            refine c_region ?_
                            refine stp (v := .string y17.2.2.2.2.2) rfl rfl (r_move rfl rfl) ?_
                            refine stp (v := .string y17.2.2.2.2.2) rfl rfl (r_assign rfl rfl) ?_
                            refine fin ?_
                            exact n155 _ _ ⟨y17.2.2.2.2.2, _, _, fr_self rfl, B, H⟩
                          · replace H := at_itef hb162 H
                            refine c_skip ?_
                            exact n155 _ _ ⟨x153, _, _, fr_self rfl, B, H⟩
                      ·
                        rintro _ w ⟨j6_17, g, N, rfl, B, H⟩
                        refine c_seq (fun Q165 n163 o164 => ?_)
                        refine c_region ?_
                        refine stp (v := Sl.v y107.1) rfl rfl (r_move rfl rfl) ?_
                        refine stp (v := .int .i64 s5_116) rfl rfl (r_move rfl rfl) ?_
                        obtain ⟨p166, p167, he, h0, h1, hpa, H'⟩ := at_idx' H
                        replace H := H'; clear H'
                        refine stp (v := .pointer (some p167)) rfl rfl (r_indexAddr (v1 := Sl.v y107.1) (v2 := .int .i64 s5_116) rfl rfl rfl (ix' Try.underlying32 sz9 he h0 h1 hpa)) ?_
                        clear he h0 h1 hpa
                        obtain ⟨x168, hx169, H'⟩ := at_ldc H
                        replace H := H'; clear H'
                        refine stp (v := .string x168) rfl rfl (r_load (v1 := .pointer (some p167)) rfl rfl (ld1 Try.underlying9 rfl (hx169 _ (Below.refl _ _)))) ?_
                        refine stp (v := .string j6_17) rfl rfl (r_move rfl rfl) ?_
                        refine stp (v := .bool (!(x168.toList == j6_17.toList))) rfl rfl (r_sneq (s := x168) (t := j6_17) rfl rfl rfl) ?_
                        refine fin ?_
                        refine n163 _ _ ?_
                        refine c_cond (b := !(x168.toList == j6_17.toList)) rfl (fun hb170 => ?_) (fun hb170 => ?_)
                        · replace H := at_itet hb170 H
                          refine c_seq (fun Q173 n171 o172 => ?_)
                          refine c_region ?_
                          refine stp (v := .bool false) rfl rfl (r_assign rfl rfl) ?_
                          refine fin ?_
                          refine n171 _ _ ?_
                          refine c_ret (o142 _ _ _ nofun (by simp) (o139 _ _ _ nofun (o128 _ _ _ nofun (o124 _ _ _ nofun (by simp) (o94 _ _ _ nofun (by simp) (o91 _ _ _ nofun (o80 _ _ _ nofun (o76 _ _ _ nofun (by simp) (o70 _ _ _ nofun ((done (vs := [.bool false]) (.tmp rfl .nil) rfl ⟨_, rfl, H.now⟩)))))))))))
                        · replace H := at_itef hb170 H
                          refine c_skip ?_
                          refine n141 _ _ ?_
                          refine n138 _ _ ?_
                          refine c_region ?_
                          refine stp (v := .int .i64 (IntKind.i64.wrap (s5_116 + 1))) rfl rfl (r_add (a := s5_116) (b := 1) rfl rfl rfl) ?_
                          refine stp (v := .int .i64 (IntKind.i64.wrap (s5_116 + 1))) rfl rfl (r_move rfl rfl) ?_
                          refine fin ?_
                          exact nx127 (IntKind.i64.wrap (s5_116 + 1)) _ _ _ B H rfl
                    · replace H := at_itef hb137 H
                      refine c_exit (o135 _ _ _ nofun (o128 _ _ _ nofun (x125 _ _ ?_)))
                      refine n93 _ _ ?_
                      refine n90 _ _ ?_
                      refine c_region ?_
                      refine stp (v := .int .i64 (IntKind.i64.wrap (s3_86 + 1))) rfl rfl (r_add (a := s3_86) (b := 1) rfl rfl rfl) ?_
                      refine stp (v := .int .i64 (IntKind.i64.wrap (s3_86 + 1))) rfl rfl (r_move rfl rfl) ?_
                      refine fin ?_
                      exact nx79 (IntKind.i64.wrap (s3_86 + 1)) _ _ _ B H rfl
              · replace H := at_itef hb89 H
                refine c_exit (o87 _ _ _ nofun (o80 _ _ _ nofun (x77 _ _ ?_)))
                refine n69 _ _ ?_
                refine c_seq (fun Q176 n174 o175 => ?_)
                refine c_region ?_
                refine stp (v := .agg #[Sl.v y23.1, Sl.v y23.2.1, .int .i64 y23.2.2.1]) rfl rfl (r_load (v1 := .pointer (some ⟨g25, 0, none⟩)) rfl rfl (bxn (B.get 1 rfl) Try.underlying26 rfl sz26)) ?_
                refine stp (v := .int .i64 y17.2.2.2.1) rfl rfl (r_move rfl rfl) ?_
                refine stp (v := .int .i64 y17.2.2.2.2.1) rfl rfl (r_move rfl rfl) ?_
                refine stpc rfl rfl (r_call (vs := [.agg #[Sl.v y23.1, Sl.v y23.2.1, .int .i64 y23.2.2.1], .int .i64 y17.2.2.2.1, .int .i64 y17.2.2.2.2.1]) rfl rfl (ca11 _ _)) ?_
                refine at_call B H (fun y177 w B H => ?_)
                refine stp (v := .tuple #[.string y177.1, .bool y177.2]) rfl rfl (r_move rfl rfl) ?_
                refine stp (v := .string y177.1) rfl rfl (r_extract (v1 := .tuple #[.string y177.1, .bool y177.2]) rfl rfl rfl) ?_
                refine stp (v := .bool y177.2) rfl rfl (r_extract (v1 := .tuple #[.string y177.1, .bool y177.2]) rfl rfl rfl) ?_
                refine stp (v := .string y177.1) rfl rfl (r_assign rfl rfl) ?_
                refine stp (v := .bool y177.2) rfl rfl (r_assign rfl rfl) ?_
                refine fin ?_
                refine n174 _ _ ?_
                refine c_seq (fun Q180 n178 o179 => ?_)
                refine c_region ?_
                refine stp (v := .agg #[Sl.v y17.1, Sl.v y17.2.1, .int .i64 y17.2.2.1]) rfl rfl (r_load (v1 := .pointer (some ⟨g19, 0, none⟩)) rfl rfl (bxn (B.get 2 rfl) Try.underlying26 rfl sz26)) ?_
                refine stpc rfl rfl (r_call (vs := [.agg #[Sl.v y17.1, Sl.v y17.2.1, .int .i64 y17.2.2.1]]) rfl rfl (ca12 _ _)) ?_
                refine at_call B H (fun y181 w B H => ?_)
                refine stp (v := .tuple #[.int .i64 y181.1, .bool y181.2]) rfl rfl (r_move rfl rfl) ?_
                refine stp (v := .int .i64 y181.1) rfl rfl (r_extract (v1 := .tuple #[.int .i64 y181.1, .bool y181.2]) rfl rfl rfl) ?_
                refine stp (v := .bool y181.2) rfl rfl (r_extract (v1 := .tuple #[.int .i64 y181.1, .bool y181.2]) rfl rfl rfl) ?_
                refine stp (v := .int .i64 y181.1) rfl rfl (r_assign rfl rfl) ?_
                refine stp (v := .bool y181.2) rfl rfl (r_assign rfl rfl) ?_
                refine fin ?_
                refine n178 _ _ ?_
                refine c_seq (fun Q184 n182 o183 => ?_)
                refine c_region ?_
                refine stp (v := .agg #[Sl.v y23.1, Sl.v y23.2.1, .int .i64 y23.2.2.1]) rfl rfl (r_load (v1 := .pointer (some ⟨g25, 0, none⟩)) rfl rfl (bxn (B.get 1 rfl) Try.underlying26 rfl sz26)) ?_
                refine stpc rfl rfl (r_call (vs := [.agg #[Sl.v y23.1, Sl.v y23.2.1, .int .i64 y23.2.2.1]]) rfl rfl (ca12 _ _)) ?_
                refine at_call B H (fun y185 w B H => ?_)
                refine stp (v := .tuple #[.int .i64 y185.1, .bool y185.2]) rfl rfl (r_move rfl rfl) ?_
                refine stp (v := .int .i64 y185.1) rfl rfl (r_extract (v1 := .tuple #[.int .i64 y185.1, .bool y185.2]) rfl rfl rfl) ?_
                refine stp (v := .bool y185.2) rfl rfl (r_extract (v1 := .tuple #[.int .i64 y185.1, .bool y185.2]) rfl rfl rfl) ?_
                refine stp (v := .int .i64 y185.1) rfl rfl (r_assign rfl rfl) ?_
                refine stp (v := .bool y185.2) rfl rfl (r_assign rfl rfl) ?_
                refine fin ?_
                refine n182 _ _ ?_
                refine c_seqj (fun a w => ∃ (j8_2 : Bool) (g : Nat → Value) (N : NP), a = A 177 (updl g [(2, .bool j8_2)]) ∧ Bx w N [⟨g31, 26, #[Sl.v y29.1, Sl.v y29.2.1, .int .i64 y29.2.2.1]⟩, ⟨g25, 26, #[Sl.v y23.1, Sl.v y23.2.1, .int .i64 y23.2.2.1]⟩, ⟨g19, 26, #[Sl.v y17.1, Sl.v y17.2.1, .int .i64 y17.2.2.1]⟩] ∧ Aft w N (f3_laws_FnPictures.J8 R  j8_2)) (fun Q188 n186 o187 => ?_) ?_
                ·
                  refine c_region ?_
                  refine stp (v := .bool y177.2) rfl rfl (r_move rfl rfl) ?_
                  refine stp (v := .bool y177.2) rfl rfl (r_move rfl rfl) ?_
                  rcases Bool.eq_false_or_eq_true (y177.2) with hb189 | hb189
                  · replace H := at_itet hb189 H
                    refine stp (v := .bool y181.2) (wn rfl rfl rfl rfl (congrArg Value.bool hb189)) rfl (r_move rfl rfl) ?_
                    refine stp (v := .bool y181.2) rfl rfl (r_pickt rfl (congrArg Value.bool hb189) rfl) ?_
                    refine stp (v := .bool y181.2) rfl rfl (r_move rfl rfl) ?_
                    rcases Bool.eq_false_or_eq_true (y181.2) with hb190 | hb190
                    · replace H := at_itet hb190 H
                      refine stp (v := .bool y185.2) (wn rfl rfl rfl rfl (congrArg Value.bool hb190)) rfl (r_move rfl rfl) ?_
                      refine stp (v := .bool y185.2) rfl rfl (r_pickt rfl (congrArg Value.bool hb190) rfl) ?_
                      refine stp (v := .bool y185.2) rfl rfl (r_move rfl rfl) ?_
                      rcases Bool.eq_false_or_eq_true (y185.2) with hb191 | hb191
                      · replace H := at_itet hb191 H
                        refine stp (v := .string y177.1) (wn rfl rfl rfl rfl (congrArg Value.bool hb191)) rfl (r_move rfl rfl) ?_
                        refine stp (v := .string y17.2.2.2.2.2) (wn rfl rfl rfl rfl (congrArg Value.bool hb191)) rfl (r_move rfl rfl) ?_
                        refine stp (v := .bool (y177.1.toList == y17.2.2.2.2.2.toList)) (wn rfl rfl rfl rfl (congrArg Value.bool hb191)) rfl (r_seql (s := y177.1) (t := y17.2.2.2.2.2) rfl rfl rfl) ?_
                        refine stp (v := .bool (y177.1.toList == y17.2.2.2.2.2.toList)) rfl rfl (r_pickt rfl (congrArg Value.bool hb191) rfl) ?_
                        refine stp (v := .bool (y177.1.toList == y17.2.2.2.2.2.toList)) rfl rfl (r_move rfl rfl) ?_
                        rcases Bool.eq_false_or_eq_true (y177.1.toList == y17.2.2.2.2.2.toList) with hb192 | hb192
                        · replace H := at_itet hb192 H
                          refine stp (v := .int .i64 y185.1) (wn rfl rfl rfl rfl (congrArg Value.bool hb192)) rfl (r_move rfl rfl) ?_
                          refine stp (v := .int .i64 y181.1) (wn rfl rfl rfl rfl (congrArg Value.bool hb192)) rfl (r_move rfl rfl) ?_
                          refine stp (v := .pointer (some ⟨g19, 2, none⟩)) (wn rfl rfl rfl rfl (congrArg Value.bool hb192)) rfl (r_fieldAddr (v1 := .pointer (some ⟨g19, 0, none⟩)) rfl rfl (fld26_2 _ _)) ?_
                          refine stp (v := .int .i64 y17.2.2.1) (wn rfl rfl rfl rfl (congrArg Value.bool hb192)) rfl (r_load (v1 := .pointer (some ⟨g19, 2, none⟩)) rfl rfl (ld1 Try.underlying3 rfl (bx1 (B.get 2 rfl) rfl rfl))) ?_
                          refine stp (v := .int .i64 (IntKind.i64.wrap (y181.1 + y17.2.2.1))) (wn rfl rfl rfl rfl (congrArg Value.bool hb192)) rfl (r_add (a := y181.1) (b := y17.2.2.1) rfl rfl rfl) ?_
                          refine stp (v := .bool (decide (y185.1 ≤ (IntKind.i64.wrap (y181.1 + y17.2.2.1))))) (wn rfl rfl rfl rfl (congrArg Value.bool hb192)) rfl (r_leq (a := y185.1) (b := IntKind.i64.wrap (y181.1 + y17.2.2.1)) rfl rfl rfl) ?_
                          refine stp (v := .bool (decide (y185.1 ≤ (IntKind.i64.wrap (y181.1 + y17.2.2.1))))) rfl rfl (r_pickt rfl (congrArg Value.bool hb192) rfl) ?_
                          refine stp (v := .bool (decide (y185.1 ≤ (IntKind.i64.wrap (y181.1 + y17.2.2.1))))) rfl rfl (r_assign rfl rfl) ?_
                          refine fin ?_
                          exact n186 _ _ ⟨decide (y185.1 ≤ (IntKind.i64.wrap (y181.1 + y17.2.2.1))), _, _, fr_self rfl, B, H⟩
                        · replace H := at_itef hb192 H
                          refine skp (un rfl rfl rfl rfl (congrArg Value.bool hb192) nofun) rfl ?_
                          refine skp (un rfl rfl rfl rfl (congrArg Value.bool hb192) nofun) rfl ?_
                          refine skp (un rfl rfl rfl rfl (congrArg Value.bool hb192) nofun) rfl ?_
                          refine skp (un rfl rfl rfl rfl (congrArg Value.bool hb192) nofun) rfl ?_
                          refine skp (un rfl rfl rfl rfl (congrArg Value.bool hb192) nofun) rfl ?_
                          refine skp (un rfl rfl rfl rfl (congrArg Value.bool hb192) nofun) rfl ?_
                          refine stp (v := .bool false) rfl rfl (r_pickf rfl (congrArg Value.bool hb192) rfl) ?_
                          refine stp (v := .bool false) rfl rfl (r_assign rfl rfl) ?_
                          refine fin ?_
                          exact n186 _ _ ⟨false, _, _, fr_self rfl, B, H⟩
                      · replace H := at_itef hb191 H
                        refine skp (un rfl rfl rfl rfl (congrArg Value.bool hb191) nofun) rfl ?_
                        refine skp (un rfl rfl rfl rfl (congrArg Value.bool hb191) nofun) rfl ?_
                        refine skp (un rfl rfl rfl rfl (congrArg Value.bool hb191) nofun) rfl ?_
                        refine stp (v := .bool false) rfl rfl (r_pickf rfl (congrArg Value.bool hb191) rfl) ?_
                        refine stp (v := .bool false) rfl rfl (r_move rfl rfl) ?_
                        refine skp (un rfl rfl rfl rfl rfl nofun) rfl ?_
                        refine skp (un rfl rfl rfl rfl rfl nofun) rfl ?_
                        refine skp (un rfl rfl rfl rfl rfl nofun) rfl ?_
                        refine skp (un rfl rfl rfl rfl rfl nofun) rfl ?_
                        refine skp (un rfl rfl rfl rfl rfl nofun) rfl ?_
                        refine skp (un rfl rfl rfl rfl rfl nofun) rfl ?_
                        refine stp (v := .bool false) rfl rfl (r_pickf rfl rfl rfl) ?_
                        refine stp (v := .bool false) rfl rfl (r_assign rfl rfl) ?_
                        refine fin ?_
                        exact n186 _ _ ⟨false, _, _, fr_self rfl, B, H⟩
                    · replace H := at_itef hb190 H
                      refine skp (un rfl rfl rfl rfl (congrArg Value.bool hb190) nofun) rfl ?_
                      refine stp (v := .bool false) rfl rfl (r_pickf rfl (congrArg Value.bool hb190) rfl) ?_
                      refine stp (v := .bool false) rfl rfl (r_move rfl rfl) ?_
                      refine skp (un rfl rfl rfl rfl rfl nofun) rfl ?_
                      refine skp (un rfl rfl rfl rfl rfl nofun) rfl ?_
                      refine skp (un rfl rfl rfl rfl rfl nofun) rfl ?_
                      refine stp (v := .bool false) rfl rfl (r_pickf rfl rfl rfl) ?_
                      refine stp (v := .bool false) rfl rfl (r_move rfl rfl) ?_
                      refine skp (un rfl rfl rfl rfl rfl nofun) rfl ?_
                      refine skp (un rfl rfl rfl rfl rfl nofun) rfl ?_
                      refine skp (un rfl rfl rfl rfl rfl nofun) rfl ?_
                      refine skp (un rfl rfl rfl rfl rfl nofun) rfl ?_
                      refine skp (un rfl rfl rfl rfl rfl nofun) rfl ?_
                      refine skp (un rfl rfl rfl rfl rfl nofun) rfl ?_
                      refine stp (v := .bool false) rfl rfl (r_pickf rfl rfl rfl) ?_
                      refine stp (v := .bool false) rfl rfl (r_assign rfl rfl) ?_
                      refine fin ?_
                      exact n186 _ _ ⟨false, _, _, fr_self rfl, B, H⟩
                  · replace H := at_itef hb189 H
                    refine skp (un rfl rfl rfl rfl (congrArg Value.bool hb189) nofun) rfl ?_
                    refine stp (v := .bool false) rfl rfl (r_pickf rfl (congrArg Value.bool hb189) rfl) ?_
                    refine stp (v := .bool false) rfl rfl (r_move rfl rfl) ?_
                    refine skp (un rfl rfl rfl rfl rfl nofun) rfl ?_
                    refine stp (v := .bool false) rfl rfl (r_pickf rfl rfl rfl) ?_
                    refine stp (v := .bool false) rfl rfl (r_move rfl rfl) ?_
                    refine skp (un rfl rfl rfl rfl rfl nofun) rfl ?_
                    refine skp (un rfl rfl rfl rfl rfl nofun) rfl ?_
                    refine skp (un rfl rfl rfl rfl rfl nofun) rfl ?_
                    refine stp (v := .bool false) rfl rfl (r_pickf rfl rfl rfl) ?_
                    refine stp (v := .bool false) rfl rfl (r_move rfl rfl) ?_
                    refine skp (un rfl rfl rfl rfl rfl nofun) rfl ?_
                    refine skp (un rfl rfl rfl rfl rfl nofun) rfl ?_
                    refine skp (un rfl rfl rfl rfl rfl nofun) rfl ?_
                    refine skp (un rfl rfl rfl rfl rfl nofun) rfl ?_
                    refine skp (un rfl rfl rfl rfl rfl nofun) rfl ?_
                    refine skp (un rfl rfl rfl rfl rfl nofun) rfl ?_
                    refine stp (v := .bool false) rfl rfl (r_pickf rfl rfl rfl) ?_
                    refine stp (v := .bool false) rfl rfl (r_assign rfl rfl) ?_
                    refine fin ?_
                    exact n186 _ _ ⟨false, _, _, fr_self rfl, B, H⟩
                ·
                  rintro _ w ⟨j8_2, g, N, rfl, B, H⟩
                  refine c_ret ((done (vs := [.bool j8_2]) (.tmp rfl .nil) rfl ⟨_, rfl, H.now⟩))

/-! ### laws.FnExactPutLeaf/4 -/
def f4_laws_FnExactPutLeaf.J3 (R : Value → World → Prop) (y49 : Sl × Sl × Int × Bool) (y107 : Int) (j3_105 : Bool) : Tm :=
  T.ite j3_105 (T.ret R (.bool false)) (T.call Try.prog 17 [.agg #[Sl.v y49.1, Sl.v y49.2.1, .int .i64 y49.2.2.1], .int .i64 1] (Value.int .i64) fun (y160 : Int) => T.ite (decide (y160 < 0)) (T.ret R (.bool false)) (T.ite (y160 != y107) (T.ret R (.bool false)) (T.ret R (.bool true))))
def f4_laws_FnExactPutLeaf.J2 (R : Value → World → Prop) (a0_0 : Sl) (a0_1 : Sl) (a0_2 : Int) (a1 : Int) (a2 : Int) (a3 : ByteArray) (y37 : Sl × Sl × Int × Bool) (y49 : Sl × Sl × Int × Bool) (j2_76 : Bool) : Tm :=
  T.ite j2_76 (T.ret R (.bool false)) (T.call Try.prog 16 [.agg #[Sl.v y49.1, Sl.v y49.2.1, .int .i64 y49.2.2.1], .int .i64 1] (Value.int .i64) fun (y107 : Int) => T.call Try.prog 17 [.agg #[Sl.v y49.1, Sl.v y49.2.1, .int .i64 y49.2.2.1], .int .i64 1] (Value.int .i64) fun (y114 : Int) => T.ite (decide (y114 < 0)) (T.ret R (.bool false)) (T.ite (y114 != y107) (T.ret R (.bool false)) (T.call Try.prog 14 [.agg #[Sl.v a0_0, Sl.v a0_1, .int .i64 a0_2]] (fun (z : Sl × Sl × Int) => .agg #[Sl.v z.1, Sl.v z.2.1, .int .i64 z.2.2]) fun (y138 : Sl × Sl × Int) => T.call Try.prog 6 [.agg #[Sl.v y138.1, Sl.v y138.2.1, .int .i64 y138.2.2], .int .i64 a1, .int .i64 a2, .string a3] (fun (z : Sl × Sl × Int × Bool) => .tuple #[.agg #[Sl.v z.1, Sl.v z.2.1, .int .i64 z.2.2.1], .bool z.2.2.2]) fun (y139 : Sl × Sl × Int × Bool) => T.call Try.prog 15 [.agg #[Sl.v y139.1, Sl.v y139.2.1, .int .i64 y139.2.2.1], .agg #[Sl.v y37.1, Sl.v y37.2.1, .int .i64 y37.2.2.1]] Value.bool fun (y148 : Bool) => T.ite (!y148) (f4_laws_FnExactPutLeaf.J3 R y49 y107 true) (f4_laws_FnExactPutLeaf.J3 R y49 y107 (!(y139.2.2.2 == y37.2.2.2))))))
def f4_laws_FnExactPutLeaf.J1 (R : Value → World → Prop) (a0_0 : Sl) (a0_1 : Sl) (a0_2 : Int) (a1 : Int) (a2 : Int) (a3 : ByteArray) (y37 : Sl × Sl × Int × Bool) (y43 : Sl × Sl × Int) (y49 : Sl × Sl × Int × Bool) (j1_55 : Bool) : Tm :=
  T.ite j1_55 (T.ret R (.bool false)) (T.call Try.prog 14 [.agg #[Sl.v a0_0, Sl.v a0_1, .int .i64 a0_2]] (fun (z : Sl × Sl × Int) => .agg #[Sl.v z.1, Sl.v z.2.1, .int .i64 z.2.2]) fun (y75 : Sl × Sl × Int) => T.call Try.prog 15 [.agg #[Sl.v y43.1, Sl.v y43.2.1, .int .i64 y43.2.2], .agg #[Sl.v y75.1, Sl.v y75.2.1, .int .i64 y75.2.2]] Value.bool fun (y76 : Bool) => T.ite (!y76) (T.ret R (.bool false)) (T.call Try.prog 16 [.agg #[Sl.v y43.1, Sl.v y43.2.1, .int .i64 y43.2.2], .int .i64 1] (Value.int .i64) fun (y87 : Int) => T.ite (decide (y87 < 0)) (f4_laws_FnExactPutLeaf.J2 R a0_0 a0_1 a0_2 a1 a2 a3 y37 y49 true) (T.call Try.prog 15 [.agg #[Sl.v y49.1, Sl.v y49.2.1, .int .i64 y49.2.2.1], .agg #[Sl.v y37.1, Sl.v y37.2.1, .int .i64 y37.2.2.1]] Value.bool fun (y95 : Bool) => T.ite (!y95) (f4_laws_FnExactPutLeaf.J2 R a0_0 a0_1 a0_2 a1 a2 a3 y37 y49 true) (f4_laws_FnExactPutLeaf.J2 R a0_0 a0_1 a0_2 a1 a2 a3 y37 y49 (!(y49.2.2.2 == y37.2.2.2))))))
def f4_laws_FnExactPutLeaf.T (R : Value → World → Prop) (a0_0 : Sl) (a0_1 : Sl) (a0_2 : Int) (a1 : Int) (a2 : Int) (a3 : ByteArray) : Tm :=
  T.ite (decide (1048576 < (a3.size : Int))) (T.ret R (.bool true)) (T.call Try.prog 13 [.agg #[Sl.v a0_0, Sl.v a0_1, .int .i64 a0_2], .int .i64 1048576] (Value.int .i64) fun (y22 : Int) => T.ite (decide (y22 < 0)) (T.ret R (.bool true)) (T.call Try.prog 14 [.agg #[Sl.v a0_0, Sl.v a0_1, .int .i64 a0_2]] (fun (z : Sl × Sl × Int) => .agg #[Sl.v z.1, Sl.v z.2.1, .int .i64 z.2.2]) fun (y36 : Sl × Sl × Int) => T.call Try.prog 7 [.agg #[Sl.v y36.1, Sl.v y36.2.1, .int .i64 y36.2.2], .int .i64 a1, .int .i64 a2, .string a3] (fun (z : Sl × Sl × Int × Bool) => .tuple #[.agg #[Sl.v z.1, Sl.v z.2.1, .int .i64 z.2.2.1], .bool z.2.2.2]) fun (y37 : Sl × Sl × Int × Bool) => T.call Try.prog 14 [.agg #[Sl.v a0_0, Sl.v a0_1, .int .i64 a0_2]] (fun (z : Sl × Sl × Int) => .agg #[Sl.v z.1, Sl.v z.2.1, .int .i64 z.2.2]) fun (y43 : Sl × Sl × Int) => T.call Try.prog 6 [.agg #[Sl.v y43.1, Sl.v y43.2.1, .int .i64 y43.2.2], .int .i64 a1, .int .i64 a2, .string a3] (fun (z : Sl × Sl × Int × Bool) => .tuple #[.agg #[Sl.v z.1, Sl.v z.2.1, .int .i64 z.2.2.1], .bool z.2.2.2]) fun (y49 : Sl × Sl × Int × Bool) => T.call Try.prog 15 [.agg #[Sl.v y49.1, Sl.v y49.2.1, .int .i64 y49.2.2.1], .agg #[Sl.v y37.1, Sl.v y37.2.1, .int .i64 y37.2.2.1]] Value.bool fun (y58 : Bool) => T.ite (!y58) (f4_laws_FnExactPutLeaf.J1 R a0_0 a0_1 a0_2 a1 a2 a3 y37 y43 y49 true) (f4_laws_FnExactPutLeaf.J1 R a0_0 a0_1 a0_2 a1 a2 a3 y37 y43 y49 (!(y49.2.2.2 == y37.2.2.2)))))
set_option maxHeartbeats 4000000 in
set_option maxRecDepth 100000 in
theorem f4_laws_FnExactPutLeaf.ok (R : Value → World → Prop) (a0_0 : Sl) (a0_1 : Sl) (a0_2 : Int) (a1 : Int) (a2 : Int) (a3 : ByteArray) (w : World) (h : Aft w (fun _ => False) (f4_laws_FnExactPutLeaf.T R a0_0 a0_1 a0_2 a1 a2 a3)) :
    Calls Try.prog 4 (List.toArray [.agg #[Sl.v a0_0, Sl.v a0_1, .int .i64 a0_2], .int .i64 a1, .int .i64 a2, .string a3]) w fun e w' => ∃ v, e = .returned v ∧ R v w' := by
  refine enter 114 Try.func4 rfl rfl rfl ?_
  have B := Bx.nil w
  have H := h
  clear h
  refine c_seq (fun Q3 n1 o2 => ?_)
  refine c_region ?_
  obtain ⟨w4, N, g5, hw, hg, B, H⟩ := B.new H 42 #[Sl.v a0_0, Sl.v a0_1, .int .i64 a0_2]
  refine stp (v := .pointer (some ⟨g5, 0, none⟩)) (w' := w4) rfl rfl (r_box (v1 := .agg #[Sl.v a0_0, Sl.v a0_1, .int .i64 a0_2]) rfl rfl (box_run rfl hw hg)) ?_
  clear hw hg
  refine stp (v := .bool false) rfl rfl (r_assign rfl rfl) ?_
  refine fin ?_
  refine n1 _ _ ?_
  refine c_seq (fun Q8 n6 o7 => ?_)
  refine c_seq (fun Q11 n9 o10 => ?_)
  refine c_region ?_
  refine stp (v := .string a3) rfl rfl (r_move rfl rfl) ?_
  refine stp (v := .int .i64 (a3.size : Int)) rfl rfl (r_builtin (vs := [.string a3]) rfl rfl (fun _ => lens Try.underlying9)) ?_
  refine stp (v := .bool (decide (1048576 < (a3.size : Int)))) rfl rfl (r_gtr (a := (a3.size : Int)) (b := 1048576) rfl rfl rfl) ?_
  refine fin ?_
  refine n9 _ _ ?_
  refine c_cond (b := decide (1048576 < (a3.size : Int))) rfl (fun hb12 => ?_) (fun hb12 => ?_)
  · replace H := at_itet hb12 H
    refine c_seq (fun Q15 n13 o14 => ?_)
    refine c_region ?_
    refine stp (v := .bool true) rfl rfl (r_assign rfl rfl) ?_
    refine fin ?_
    refine n13 _ _ ?_
    refine c_ret (o7 _ _ _ nofun ((done (vs := [.bool true]) (.tmp rfl .nil) rfl ⟨_, rfl, H.now⟩)))
  · replace H := at_itef hb12 H
    refine c_skip ?_
    refine n6 _ _ ?_
    refine c_seq (fun Q18 n16 o17 => ?_)
    refine c_region ?_
    refine stp (v := .int .i64 1048576) rfl rfl (r_assign rfl rfl) ?_
    refine fin ?_
    refine n16 _ _ ?_
    refine c_seq (fun Q21 n19 o20 => ?_)
    refine c_region ?_
    refine stp (v := .agg #[Sl.v a0_0, Sl.v a0_1, .int .i64 a0_2]) rfl rfl (r_load (v1 := .pointer (some ⟨g5, 0, none⟩)) rfl rfl (bxn (B.get 0 rfl) Try.underlying42 rfl sz42)) ?_
    refine stp (v := .int .i64 1048576) rfl rfl (r_move rfl rfl) ?_
    refine stpc rfl rfl (r_call (vs := [.agg #[Sl.v a0_0, Sl.v a0_1, .int .i64 a0_2], .int .i64 1048576]) rfl rfl (ca13 _ _)) ?_
    refine at_call B H (fun y22 w B H => ?_)
    refine stp (v := .int .i64 y22) rfl rfl (r_assign rfl rfl) ?_
    refine fin ?_
    refine n19 _ _ ?_
    refine c_seq (fun Q25 n23 o24 => ?_)
    refine c_seq (fun Q28 n26 o27 => ?_)
    refine c_region ?_
    refine stp (v := .int .i64 y22) rfl rfl (r_move rfl rfl) ?_
    refine stp (v := .bool (decide (y22 < 0))) rfl rfl (r_lss (a := y22) (b := 0) rfl rfl rfl) ?_
    refine fin ?_
    refine n26 _ _ ?_
    refine c_cond (b := decide (y22 < 0)) rfl (fun hb29 => ?_) (fun hb29 => ?_)
    · replace H := at_itet hb29 H
      refine c_seq (fun Q32 n30 o31 => ?_)
      refine c_region ?_
      refine stp (v := .bool true) rfl rfl (r_assign rfl rfl) ?_
      refine fin ?_
      refine n30 _ _ ?_
      refine c_ret (o24 _ _ _ nofun ((done (vs := [.bool true]) (.tmp rfl .nil) rfl ⟨_, rfl, H.now⟩)))
    · replace H := at_itef hb29 H
      refine c_skip ?_
      refine n23 _ _ ?_
      refine c_seq (fun Q35 n33 o34 => ?_)
      refine c_region ?_
      refine stp (v := .agg #[Sl.v a0_0, Sl.v a0_1, .int .i64 a0_2]) rfl rfl (r_load (v1 := .pointer (some ⟨g5, 0, none⟩)) rfl rfl (bxn (B.get 0 rfl) Try.underlying42 rfl sz42)) ?_
      refine stpc rfl rfl (r_call (vs := [.agg #[Sl.v a0_0, Sl.v a0_1, .int .i64 a0_2]]) rfl rfl (ca14 _ _)) ?_
      refine at_call B H (fun y36 w B H => ?_)
      refine stp (v := .int .i64 a1) rfl rfl (r_move rfl rfl) ?_
      refine stp (v := .int .i64 a2) rfl rfl (r_move rfl rfl) ?_
      refine stp (v := .string a3) rfl rfl (r_move rfl rfl) ?_
      refine stpc rfl rfl (r_call (vs := [.agg #[Sl.v y36.1, Sl.v y36.2.1, .int .i64 y36.2.2], .int .i64 a1, .int .i64 a2, .string a3]) rfl rfl (ca7 _ _)) ?_
      refine at_call B H (fun y37 w B H => ?_)
      refine stp (v := .tuple #[.agg #[Sl.v y37.1, Sl.v y37.2.1, .int .i64 y37.2.2.1], .bool y37.2.2.2]) rfl rfl (r_move rfl rfl) ?_
      refine stp (v := .agg #[Sl.v y37.1, Sl.v y37.2.1, .int .i64 y37.2.2.1]) rfl rfl (r_extract (v1 := .tuple #[.agg #[Sl.v y37.1, Sl.v y37.2.1, .int .i64 y37.2.2.1], .bool y37.2.2.2]) rfl rfl rfl) ?_
      refine stp (v := .bool y37.2.2.2) rfl rfl (r_extract (v1 := .tuple #[.agg #[Sl.v y37.1, Sl.v y37.2.1, .int .i64 y37.2.2.1], .bool y37.2.2.2]) rfl rfl rfl) ?_
      obtain ⟨w38, N, g39, hw, hg, B, H⟩ := B.new H 26 #[Sl.v Sl.nil, Sl.v Sl.nil, .int .i64 0]
      refine stp (v := .pointer (some ⟨g39, 0, none⟩)) (w' := w38) rfl rfl (r_alloc rfl (alloc_run (al26 _) hw hg)) ?_
      clear hw hg
      obtain ⟨w2, hr, B, H⟩ := B.stn H (i := 0) (T := 26) (cs' := #[Sl.v y37.1, Sl.v y37.2.1, .int .i64 y37.2.2.1]) (ad := ⟨g39, 0, none⟩) rfl rfl rfl rfl sz26
      refine stp0 rfl rfl (r_store (v1 := .pointer (some ⟨g39, 0, none⟩)) (v2 := .agg #[Sl.v y37.1, Sl.v y37.2.1, .int .i64 y37.2.2.1]) rfl rfl rfl hr) ?_
      replace B : Bx _ _ [⟨g39, 26, #[Sl.v y37.1, Sl.v y37.2.1, .int .i64 y37.2.2.1]⟩, ⟨g5, 42, #[Sl.v a0_0, Sl.v a0_1, .int .i64 a0_2]⟩] := B
      clear hr
      refine stp (v := .bool y37.2.2.2) rfl rfl (r_assign rfl rfl) ?_
      refine fin ?_
      refine n33 _ _ ?_
      refine c_seq (fun Q42 n40 o41 => ?_)
      refine c_region ?_
      refine stp (v := .agg #[Sl.v a0_0, Sl.v a0_1, .int .i64 a0_2]) rfl rfl (r_load (v1 := .pointer (some ⟨g5, 0, none⟩)) rfl rfl (bxn (B.get 1 rfl) Try.underlying42 rfl sz42)) ?_
      refine stpc rfl rfl (r_call (vs := [.agg #[Sl.v a0_0, Sl.v a0_1, .int .i64 a0_2]]) rfl rfl (ca14 _ _)) ?_
      refine at_call B H (fun y43 w B H => ?_)
      obtain ⟨w44, N, g45, hw, hg, B, H⟩ := B.new H 26 #[Sl.v Sl.nil, Sl.v Sl.nil, .int .i64 0]
      refine stp (v := .pointer (some ⟨g45, 0, none⟩)) (w' := w44) rfl rfl (r_alloc rfl (alloc_run (al26 _) hw hg)) ?_
      clear hw hg
      obtain ⟨w2, hr, B, H⟩ := B.stn H (i := 0) (T := 26) (cs' := #[Sl.v y43.1, Sl.v y43.2.1, .int .i64 y43.2.2]) (ad := ⟨g45, 0, none⟩) rfl rfl rfl rfl sz26
      refine stp0 rfl rfl (r_store (v1 := .pointer (some ⟨g45, 0, none⟩)) (v2 := .agg #[Sl.v y43.1, Sl.v y43.2.1, .int .i64 y43.2.2]) rfl rfl rfl hr) ?_
      replace B : Bx _ _ [⟨g45, 26, #[Sl.v y43.1, Sl.v y43.2.1, .int .i64 y43.2.2]⟩, ⟨g39, 26, #[Sl.v y37.1, Sl.v y37.2.1, .int .i64 y37.2.2.1]⟩, ⟨g5, 42, #[Sl.v a0_0, Sl.v a0_1, .int .i64 a0_2]⟩] := B
      clear hr
      refine fin ?_
      refine n40 _ _ ?_
      refine c_seq (fun Q48 n46 o47 => ?_)
      refine c_region ?_
      refine stp (v := .agg #[Sl.v y43.1, Sl.v y43.2.1, .int .i64 y43.2.2]) rfl rfl (r_load (v1 := .pointer (some ⟨g45, 0, none⟩)) rfl rfl (bxn (B.get 0 rfl) Try.underlying26 rfl sz26)) ?_
      refine stp (v := .int .i64 a1) rfl rfl (r_move rfl rfl) ?_
      refine stp (v := .int .i64 a2) rfl rfl (r_move rfl rfl) ?_
      refine stp (v := .string a3) rfl rfl (r_move rfl rfl) ?_
      refine stpc rfl rfl (r_call (vs := [.agg #[Sl.v y43.1, Sl.v y43.2.1, .int .i64 y43.2.2], .int .i64 a1, .int .i64 a2, .string a3]) rfl rfl (ca6 _ _)) ?_
      refine at_call B H (fun y49 w B H => ?_)
      refine stp (v := .tuple #[.agg #[Sl.v y49.1, Sl.v y49.2.1, .int .i64 y49.2.2.1], .bool y49.2.2.2]) rfl rfl (r_move rfl rfl) ?_
      refine stp (v := .agg #[Sl.v y49.1, Sl.v y49.2.1, .int .i64 y49.2.2.1]) rfl rfl (r_extract (v1 := .tuple #[.agg #[Sl.v y49.1, Sl.v y49.2.1, .int .i64 y49.2.2.1], .bool y49.2.2.2]) rfl rfl rfl) ?_
      refine stp (v := .bool y49.2.2.2) rfl rfl (r_extract (v1 := .tuple #[.agg #[Sl.v y49.1, Sl.v y49.2.1, .int .i64 y49.2.2.1], .bool y49.2.2.2]) rfl rfl rfl) ?_
      obtain ⟨w50, N, g51, hw, hg, B, H⟩ := B.new H 26 #[Sl.v Sl.nil, Sl.v Sl.nil, .int .i64 0]
      refine stp (v := .pointer (some ⟨g51, 0, none⟩)) (w' := w50) rfl rfl (r_alloc rfl (alloc_run (al26 _) hw hg)) ?_
      clear hw hg
      obtain ⟨w2, hr, B, H⟩ := B.stn H (i := 0) (T := 26) (cs' := #[Sl.v y49.1, Sl.v y49.2.1, .int .i64 y49.2.2.1]) (ad := ⟨g51, 0, none⟩) rfl rfl rfl rfl sz26
      refine stp0 rfl rfl (r_store (v1 := .pointer (some ⟨g51, 0, none⟩)) (v2 := .agg #[Sl.v y49.1, Sl.v y49.2.1, .int .i64 y49.2.2.1]) rfl rfl rfl hr) ?_
      replace B : Bx _ _ [⟨g51, 26, #[Sl.v y49.1, Sl.v y49.2.1, .int .i64 y49.2.2.1]⟩, ⟨g45, 26, #[Sl.v y43.1, Sl.v y43.2.1, .int .i64 y43.2.2]⟩, ⟨g39, 26, #[Sl.v y37.1, Sl.v y37.2.1, .int .i64 y37.2.2.1]⟩, ⟨g5, 42, #[Sl.v a0_0, Sl.v a0_1, .int .i64 a0_2]⟩] := B
      clear hr
      refine stp (v := .bool y49.2.2.2) rfl rfl (r_assign rfl rfl) ?_
      refine fin ?_
      refine n46 _ _ ?_
      refine c_seq (fun Q54 n52 o53 => ?_)
      refine c_seqj (fun a w => ∃ (j1_55 : Bool) (g : Nat → Value) (N : NP), a = A 114 (updl g [(1, .int .i64 a1), (2, .int .i64 a2), (3, .string a3), (4, .pointer (some ⟨g5, 0, none⟩)), (10, .pointer (some ⟨g39, 0, none⟩)), (11, .bool y37.2.2.2), (12, .pointer (some ⟨g45, 0, none⟩)), (13, .pointer (some ⟨g51, 0, none⟩)), (14, .bool y49.2.2.2), (55, .bool j1_55)]) ∧ Bx w N [⟨g51, 26, #[Sl.v y49.1, Sl.v y49.2.1, .int .i64 y49.2.2.1]⟩, ⟨g45, 26, #[Sl.v y43.1, Sl.v y43.2.1, .int .i64 y43.2.2]⟩, ⟨g39, 26, #[Sl.v y37.1, Sl.v y37.2.1, .int .i64 y37.2.2.1]⟩, ⟨g5, 42, #[Sl.v a0_0, Sl.v a0_1, .int .i64 a0_2]⟩] ∧ Aft w N (f4_laws_FnExactPutLeaf.J1 R a0_0 a0_1 a0_2 a1 a2 a3 y37 y43 y49 j1_55)) (fun Q57 n55 o56 => ?_) ?_
      ·
        refine c_region ?_
        refine stp (v := .agg #[Sl.v y49.1, Sl.v y49.2.1, .int .i64 y49.2.2.1]) rfl rfl (r_load (v1 := .pointer (some ⟨g51, 0, none⟩)) rfl rfl (bxn (B.get 0 rfl) Try.underlying26 rfl sz26)) ?_
        refine stp (v := .agg #[Sl.v y37.1, Sl.v y37.2.1, .int .i64 y37.2.2.1]) rfl rfl (r_load (v1 := .pointer (some ⟨g39, 0, none⟩)) rfl rfl (bxn (B.get 2 rfl) Try.underlying26 rfl sz26)) ?_
        refine stpc rfl rfl (r_call (vs := [.agg #[Sl.v y49.1, Sl.v y49.2.1, .int .i64 y49.2.2.1], .agg #[Sl.v y37.1, Sl.v y37.2.1, .int .i64 y37.2.2.1]]) rfl rfl (ca15 _ _)) ?_
        refine at_call B H (fun y58 w B H => ?_)
        refine stp (v := .bool (!y58)) rfl rfl (r_not (b := y58) rfl rfl) ?_
        refine stp (v := .bool (!y58)) rfl rfl (r_move rfl rfl) ?_
        rcases Bool.eq_false_or_eq_true (!y58) with hb59 | hb59
        · replace H := at_itet hb59 H
          refine skp (un rfl rfl rfl rfl (congrArg Value.bool hb59) nofun) rfl ?_
          refine skp (un rfl rfl rfl rfl (congrArg Value.bool hb59) nofun) rfl ?_
          refine skp (un rfl rfl rfl rfl (congrArg Value.bool hb59) nofun) rfl ?_
          refine stp (v := .bool true) rfl rfl (r_pickt rfl (congrArg Value.bool hb59) rfl) ?_
          refine fin ?_
          exact n55 _ _ ⟨true, _, _, fr_self rfl, B, H⟩
        · replace H := at_itef hb59 H
          refine stp (v := .bool y49.2.2.2) (wn rfl rfl rfl rfl (congrArg Value.bool hb59)) rfl (r_move rfl rfl) ?_
          refine stp (v := .bool y37.2.2.2) (wn rfl rfl rfl rfl (congrArg Value.bool hb59)) rfl (r_move rfl rfl) ?_
          refine stp (v := .bool (!(y49.2.2.2 == y37.2.2.2))) (wn rfl rfl rfl rfl (congrArg Value.bool hb59)) rfl (r_bneq (s := y49.2.2.2) (t := y37.2.2.2) rfl rfl rfl Try.underlying4) ?_
          refine stp (v := .bool (!(y49.2.2.2 == y37.2.2.2))) rfl rfl (r_pickf rfl (congrArg Value.bool hb59) rfl) ?_
          refine fin ?_
          exact n55 _ _ ⟨!(y49.2.2.2 == y37.2.2.2), _, _, fr_self rfl, B, H⟩
      ·
        rintro _ w ⟨j1_55, g, N, rfl, B, H⟩
        refine c_cond (b := j1_55) rfl (fun hb60 => ?_) (fun hb60 => ?_)
        · replace H := at_itet hb60 H
          refine c_seq (fun Q63 n61 o62 => ?_)
          refine c_region ?_
          refine stp (v := .bool false) rfl rfl (r_assign rfl rfl) ?_
          refine fin ?_
          refine n61 _ _ ?_
          refine c_ret (o53 _ _ _ nofun ((done (vs := [.bool false]) (.tmp rfl .nil) rfl ⟨_, rfl, H.now⟩)))
        · replace H := at_itef hb60 H
          refine c_skip ?_
          refine n52 _ _ ?_
          refine c_seq (fun Q66 n64 o65 => ?_)
          refine c_seq (fun Q69 n67 o68 => ?_)
          refine c_open 3 (kap [2] []) (fun i b => .pointer (some ⟨b, 0, none⟩)) (fun _ => []) (fun i => []) [0, 1, 2] [] [] _ rfl (by kernel_rfl) (by kernel_rfl) rfl B (flk (by simp) al_nil) ?_
          refine ph_q (v := .agg #[Sl.v y43.1, Sl.v y43.2.1, .int .i64 y43.2.2]) rfl rfl rfl (hv_ok rfl rfl) (qy_val rfl (fun w_ ρ_ hb_ => (r_load (v1 := .pointer (some ⟨g45, 0, none⟩)) rfl rfl (bxn (hb_.get 1 rfl) Try.underlying26 rfl sz26)))) ?_
          refine ph_q (v := .agg #[Sl.v a0_0, Sl.v a0_1, .int .i64 a0_2]) rfl rfl rfl (hv_ok rfl rfl) (qy_val rfl (fun w_ ρ_ hb_ => (r_load (v1 := .pointer (some ⟨g5, 0, none⟩)) rfl rfl (bxn (hb_.get 3 rfl) Try.underlying42 rfl sz42)))) ?_
          refine ph_e rfl rfl (fun w70 ρ74 hc hs => ?_)
          obtain ⟨hx, N71, hz72, B73⟩ := hc
          replace H := H.step hz72
          clear hz72
          refine ef_call rfl (r_call (vs := [.agg #[Sl.v a0_0, Sl.v a0_1, .int .i64 a0_2]]) rfl rfl (ca14 _ _)) (at_call B73 H (fun y75 w2 B H => ?_))
          refine ⟨Cls w2 N71 [⟨g51, 26, #[Sl.v y49.1, Sl.v y49.2.1, .int .i64 y49.2.2.1]⟩, ⟨g45, 26, #[Sl.v y43.1, Sl.v y43.2.1, .int .i64 y43.2.2]⟩, ⟨g39, 26, #[Sl.v y37.1, Sl.v y37.2.1, .int .i64 y37.2.2.1]⟩, ⟨g5, 42, #[Sl.v a0_0, Sl.v a0_1, .int .i64 a0_2]⟩] [] [], Cls.now hx B, (flk (by simp) al_nil), (pd_anc (re := [0]) (by kernel_rfl) (re_cons rfl rfl rfl (qy_val rfl (fun w_ ρ_ hb_ => (r_load (v1 := .pointer (some ⟨g45, 0, none⟩)) rfl rfl (bxn (hb_.get 1 rfl) Try.underlying26 rfl sz26)))) re_nil)), ?_⟩
          clear hx
          replace B := B.sub (List.sublist_append_right _ _)
          refine ph_nil0 (fun w N hz B => ?_)
          replace H := H.step hz
          refine stpc rfl rfl (r_call (vs := [.agg #[Sl.v y43.1, Sl.v y43.2.1, .int .i64 y43.2.2], .agg #[Sl.v y75.1, Sl.v y75.2.1, .int .i64 y75.2.2]]) rfl rfl (ca15 _ _)) ?_
          refine at_call B H (fun y76 w B H => ?_)
          refine stp (v := .bool (!y76)) rfl rfl (r_not (b := y76) rfl rfl) ?_
          refine fin ?_
          refine n67 _ _ ?_
          refine c_cond (b := !y76) rfl (fun hb77 => ?_) (fun hb77 => ?_)
          · replace H := at_itet hb77 H
            refine c_seq (fun Q80 n78 o79 => ?_)
            refine c_region ?_
            refine stp (v := .bool false) rfl rfl (r_assign rfl rfl) ?_
            refine fin ?_
            refine n78 _ _ ?_
            refine c_ret (o65 _ _ _ nofun ((done (vs := [.bool false]) (.tmp rfl .nil) rfl ⟨_, rfl, H.now⟩)))
          · replace H := at_itef hb77 H
            refine c_skip ?_
            refine n64 _ _ ?_
            refine c_seq (fun Q83 n81 o82 => ?_)
            refine c_region ?_
            refine stp (v := .int .i64 1) rfl rfl (r_assign rfl rfl) ?_
            refine fin ?_
            refine n81 _ _ ?_
            refine c_seq (fun Q86 n84 o85 => ?_)
            refine c_region ?_
            refine stp (v := .agg #[Sl.v y43.1, Sl.v y43.2.1, .int .i64 y43.2.2]) rfl rfl (r_load (v1 := .pointer (some ⟨g45, 0, none⟩)) rfl rfl (bxn (B.get 1 rfl) Try.underlying26 rfl sz26)) ?_
            refine stp (v := .int .i64 1) rfl rfl (r_move rfl rfl) ?_
            refine stpc rfl rfl (r_call (vs := [.agg #[Sl.v y43.1, Sl.v y43.2.1, .int .i64 y43.2.2], .int .i64 1]) rfl rfl (ca16 _ _)) ?_
            refine at_call B H (fun y87 w B H => ?_)
            refine stp (v := .int .i64 y87) rfl rfl (r_assign rfl rfl) ?_
            refine fin ?_
            refine n84 _ _ ?_
            refine c_seq (fun Q90 n88 o89 => ?_)
            refine c_seqj (fun a w => ∃ (j2_76 : Bool) (g : Nat → Value) (N : NP), a = A 114 (updl g [(1, .int .i64 a1), (2, .int .i64 a2), (3, .string a3), (4, .pointer (some ⟨g5, 0, none⟩)), (10, .pointer (some ⟨g39, 0, none⟩)), (11, .bool y37.2.2.2), (13, .pointer (some ⟨g51, 0, none⟩)), (76, .bool j2_76)]) ∧ Bx w N [⟨g51, 26, #[Sl.v y49.1, Sl.v y49.2.1, .int .i64 y49.2.2.1]⟩, ⟨g45, 26, #[Sl.v y43.1, Sl.v y43.2.1, .int .i64 y43.2.2]⟩, ⟨g39, 26, #[Sl.v y37.1, Sl.v y37.2.1, .int .i64 y37.2.2.1]⟩, ⟨g5, 42, #[Sl.v a0_0, Sl.v a0_1, .int .i64 a0_2]⟩] ∧ Aft w N (f4_laws_FnExactPutLeaf.J2 R a0_0 a0_1 a0_2 a1 a2 a3 y37 y49 j2_76)) (fun Q93 n91 o92 => ?_) ?_
            ·
              refine c_region ?_
              refine stp (v := .int .i64 y87) rfl rfl (r_move rfl rfl) ?_
              refine stp (v := .bool (decide (y87 < 0))) rfl rfl (r_lss (a := y87) (b := 0) rfl rfl rfl) ?_
              refine stp (v := .bool (decide (y87 < 0))) rfl rfl (r_move rfl rfl) ?_
              rcases Bool.eq_false_or_eq_true (decide (y87 < 0)) with hb94 | hb94
              · replace H := at_itet hb94 H
                refine skp (un rfl rfl rfl rfl (congrArg Value.bool hb94) nofun) rfl ?_
                refine skp (un rfl rfl rfl rfl (congrArg Value.bool hb94) nofun) rfl ?_
                refine skp (un rfl rfl rfl rfl (congrArg Value.bool hb94) nofun) rfl ?_
                refine skp (un rfl rfl rfl rfl (congrArg Value.bool hb94) nofun) rfl ?_
                refine stp (v := .bool true) rfl rfl (r_pickt rfl (congrArg Value.bool hb94) rfl) ?_
                refine stp (v := .bool true) rfl rfl (r_move rfl rfl) ?_
                refine skp (un rfl rfl rfl rfl rfl nofun) rfl ?_
                refine skp (un rfl rfl rfl rfl rfl nofun) rfl ?_
                refine skp (un rfl rfl rfl rfl rfl nofun) rfl ?_
                refine stp (v := .bool true) rfl rfl (r_pickt rfl rfl rfl) ?_
                refine fin ?_
                exact n91 _ _ ⟨true, _, _, fr_self rfl, B, H⟩
              · replace H := at_itef hb94 H
                refine stp (v := .agg #[Sl.v y49.1, Sl.v y49.2.1, .int .i64 y49.2.2.1]) (wn rfl rfl rfl rfl (congrArg Value.bool hb94)) rfl (r_load (v1 := .pointer (some ⟨g51, 0, none⟩)) rfl rfl (bxn (B.get 0 rfl) Try.underlying26 rfl sz26)) ?_
                refine stp (v := .agg #[Sl.v y37.1, Sl.v y37.2.1, .int .i64 y37.2.2.1]) (wn rfl rfl rfl rfl (congrArg Value.bool hb94)) rfl (r_load (v1 := .pointer (some ⟨g39, 0, none⟩)) rfl rfl (bxn (B.get 2 rfl) Try.underlying26 rfl sz26)) ?_
                refine stpc (wn rfl rfl rfl rfl (congrArg Value.bool hb94)) rfl (r_call (vs := [.agg #[Sl.v y49.1, Sl.v y49.2.1, .int .i64 y49.2.2.1], .agg #[Sl.v y37.1, Sl.v y37.2.1, .int .i64 y37.2.2.1]]) rfl rfl (ca15 _ _)) ?_
                refine at_call B H (fun y95 w B H => ?_)
                refine stp (v := .bool (!y95)) (wn rfl rfl rfl rfl (congrArg Value.bool hb94)) rfl (r_not (b := y95) rfl rfl) ?_
                refine stp (v := .bool (!y95)) rfl rfl (r_pickf rfl (congrArg Value.bool hb94) rfl) ?_
                refine stp (v := .bool (!y95)) rfl rfl (r_move rfl rfl) ?_
                rcases Bool.eq_false_or_eq_true (!y95) with hb96 | hb96
                · replace H := at_itet hb96 H
                  refine skp (un rfl rfl rfl rfl (congrArg Value.bool hb96) nofun) rfl ?_
                  refine skp (un rfl rfl rfl rfl (congrArg Value.bool hb96) nofun) rfl ?_
                  refine skp (un rfl rfl rfl rfl (congrArg Value.bool hb96) nofun) rfl ?_
                  refine stp (v := .bool true) rfl rfl (r_pickt rfl (congrArg Value.bool hb96) rfl) ?_
                  refine fin ?_
                  exact n91 _ _ ⟨true, _, _, fr_self rfl, B, H⟩
                · replace H := at_itef hb96 H
                  refine stp (v := .bool y49.2.2.2) (wn rfl rfl rfl rfl (congrArg Value.bool hb96)) rfl (r_move rfl rfl) ?_
                  refine stp (v := .bool y37.2.2.2) (wn rfl rfl rfl rfl (congrArg Value.bool hb96)) rfl (r_move rfl rfl) ?_
                  refine stp (v := .bool (!(y49.2.2.2 == y37.2.2.2))) (wn rfl rfl rfl rfl (congrArg Value.bool hb96)) rfl (r_bneq (s := y49.2.2.2) (t := y37.2.2.2) rfl rfl rfl Try.underlying4) ?_
                  refine stp (v := .bool (!(y49.2.2.2 == y37.2.2.2))) rfl rfl (r_pickf rfl (congrArg Value.bool hb96) rfl) ?_
                  refine fin ?_
                  exact n91 _ _ ⟨!(y49.2.2.2 == y37.2.2.2), _, _, fr_self rfl, B, H⟩
            ·
              rintro _ w ⟨j2_76, g, N, rfl, B, H⟩
              refine c_cond (b := j2_76) rfl (fun hb97 => ?_) (fun hb97 => ?_)
              · replace H := at_itet hb97 H
                refine c_seq (fun Q100 n98 o99 => ?_)
                refine c_region ?_
                refine stp (v := .bool false) rfl rfl (r_assign rfl rfl) ?_
                refine fin ?_
                refine n98 _ _ ?_
                refine c_ret (o89 _ _ _ nofun ((done (vs := [.bool false]) (.tmp rfl .nil) rfl ⟨_, rfl, H.now⟩)))
              · replace H := at_itef hb97 H
                refine c_skip ?_
                refine n88 _ _ ?_
                refine c_seq (fun Q103 n101 o102 => ?_)
                refine c_region ?_
                refine stp (v := .int .i64 1) rfl rfl (r_assign rfl rfl) ?_
                refine fin ?_
                refine n101 _ _ ?_
                refine c_seq (fun Q106 n104 o105 => ?_)
                refine c_region ?_
                refine stp (v := .agg #[Sl.v y49.1, Sl.v y49.2.1, .int .i64 y49.2.2.1]) rfl rfl (r_load (v1 := .pointer (some ⟨g51, 0, none⟩)) rfl rfl (bxn (B.get 0 rfl) Try.underlying26 rfl sz26)) ?_
                refine stp (v := .int .i64 1) rfl rfl (r_move rfl rfl) ?_
                refine stpc rfl rfl (r_call (vs := [.agg #[Sl.v y49.1, Sl.v y49.2.1, .int .i64 y49.2.2.1], .int .i64 1]) rfl rfl (ca16 _ _)) ?_
                refine at_call B H (fun y107 w B H => ?_)
                refine stp (v := .int .i64 y107) rfl rfl (r_assign rfl rfl) ?_
                refine fin ?_
                refine n104 _ _ ?_
                refine c_seq (fun Q110 n108 o109 => ?_)
                refine c_region ?_
                refine stp (v := .int .i64 1) rfl rfl (r_assign rfl rfl) ?_
                refine fin ?_
                refine n108 _ _ ?_
                refine c_seq (fun Q113 n111 o112 => ?_)
                refine c_region ?_
                refine stp (v := .agg #[Sl.v y49.1, Sl.v y49.2.1, .int .i64 y49.2.2.1]) rfl rfl (r_load (v1 := .pointer (some ⟨g51, 0, none⟩)) rfl rfl (bxn (B.get 0 rfl) Try.underlying26 rfl sz26)) ?_
                refine stp (v := .int .i64 1) rfl rfl (r_move rfl rfl) ?_
                refine stpc rfl rfl (r_call (vs := [.agg #[Sl.v y49.1, Sl.v y49.2.1, .int .i64 y49.2.2.1], .int .i64 1]) rfl rfl (ca17 _ _)) ?_
                refine at_call B H (fun y114 w B H => ?_)
                refine stp (v := .int .i64 y114) rfl rfl (r_assign rfl rfl) ?_
                refine fin ?_
                refine n111 _ _ ?_
                refine c_seq (fun Q117 n115 o116 => ?_)
                refine c_seq (fun Q120 n118 o119 => ?_)
                refine c_region ?_
                refine stp (v := .int .i64 y114) rfl rfl (r_move rfl rfl) ?_
                refine stp (v := .bool (decide (y114 < 0))) rfl rfl (r_lss (a := y114) (b := 0) rfl rfl rfl) ?_
                refine fin ?_
                refine n118 _ _ ?_
                refine c_cond (b := decide (y114 < 0)) rfl (fun hb121 => ?_) (fun hb121 => ?_)
                · replace H := at_itet hb121 H
                  refine c_seq (fun Q124 n122 o123 => ?_)
                  refine c_region ?_
                  refine stp (v := .bool false) rfl rfl (r_assign rfl rfl) ?_
                  refine fin ?_
                  refine n122 _ _ ?_
                  refine c_ret (o116 _ _ _ nofun ((done (vs := [.bool false]) (.tmp rfl .nil) rfl ⟨_, rfl, H.now⟩)))
                · replace H := at_itef hb121 H
                  refine c_skip ?_
                  refine n115 _ _ ?_
                  refine c_seq (fun Q127 n125 o126 => ?_)
                  refine c_seq (fun Q130 n128 o129 => ?_)
                  refine c_region ?_
                  refine stp (v := .int .i64 y114) rfl rfl (r_move rfl rfl) ?_
                  refine stp (v := .int .i64 y107) rfl rfl (r_move rfl rfl) ?_
                  refine stp (v := .bool (y114 != y107)) rfl rfl (r_neq (a := y114) (b := y107) rfl rfl rfl) ?_
                  refine fin ?_
                  refine n128 _ _ ?_
                  refine c_cond (b := y114 != y107) rfl (fun hb131 => ?_) (fun hb131 => ?_)
                  · replace H := at_itet hb131 H
                    refine c_seq (fun Q134 n132 o133 => ?_)
                    refine c_region ?_
                    refine stp (v := .bool false) rfl rfl (r_assign rfl rfl) ?_
                    refine fin ?_
                    refine n132 _ _ ?_
                    refine c_ret (o126 _ _ _ nofun ((done (vs := [.bool false]) (.tmp rfl .nil) rfl ⟨_, rfl, H.now⟩)))
                  · replace H := at_itef hb131 H
                    refine c_skip ?_
                    refine n125 _ _ ?_
                    refine c_seq (fun Q137 n135 o136 => ?_)
                    refine c_region ?_
                    refine stp (v := .agg #[Sl.v a0_0, Sl.v a0_1, .int .i64 a0_2]) rfl rfl (r_load (v1 := .pointer (some ⟨g5, 0, none⟩)) rfl rfl (bxn (B.get 3 rfl) Try.underlying42 rfl sz42)) ?_
                    refine stpc rfl rfl (r_call (vs := [.agg #[Sl.v a0_0, Sl.v a0_1, .int .i64 a0_2]]) rfl rfl (ca14 _ _)) ?_
                    refine at_call B H (fun y138 w B H => ?_)
                    refine stp (v := .int .i64 a1) rfl rfl (r_move rfl rfl) ?_
                    refine stp (v := .int .i64 a2) rfl rfl (r_move rfl rfl) ?_
                    refine stp (v := .string a3) rfl rfl (r_move rfl rfl) ?_
                    refine stpc rfl rfl (r_call (vs := [.agg #[Sl.v y138.1, Sl.v y138.2.1, .int .i64 y138.2.2], .int .i64 a1, .int .i64 a2, .string a3]) rfl rfl (ca6 _ _)) ?_
                    refine at_call B H (fun y139 w B H => ?_)
                    refine stp (v := .tuple #[.agg #[Sl.v y139.1, Sl.v y139.2.1, .int .i64 y139.2.2.1], .bool y139.2.2.2]) rfl rfl (r_move rfl rfl) ?_
                    refine stp (v := .agg #[Sl.v y139.1, Sl.v y139.2.1, .int .i64 y139.2.2.1]) rfl rfl (r_extract (v1 := .tuple #[.agg #[Sl.v y139.1, Sl.v y139.2.1, .int .i64 y139.2.2.1], .bool y139.2.2.2]) rfl rfl rfl) ?_
                    refine stp (v := .bool y139.2.2.2) rfl rfl (r_extract (v1 := .tuple #[.agg #[Sl.v y139.1, Sl.v y139.2.1, .int .i64 y139.2.2.1], .bool y139.2.2.2]) rfl rfl rfl) ?_
                    obtain ⟨w140, N, g141, hw, hg, B, H⟩ := B.new H 26 #[Sl.v Sl.nil, Sl.v Sl.nil, .int .i64 0]
                    refine stp (v := .pointer (some ⟨g141, 0, none⟩)) (w' := w140) rfl rfl (r_alloc rfl (alloc_run (al26 _) hw hg)) ?_
                    clear hw hg
                    obtain ⟨w2, hr, B, H⟩ := B.stn H (i := 0) (T := 26) (cs' := #[Sl.v y139.1, Sl.v y139.2.1, .int .i64 y139.2.2.1]) (ad := ⟨g141, 0, none⟩) rfl rfl rfl rfl sz26
                    refine stp0 rfl rfl (r_store (v1 := .pointer (some ⟨g141, 0, none⟩)) (v2 := .agg #[Sl.v y139.1, Sl.v y139.2.1, .int .i64 y139.2.2.1]) rfl rfl rfl hr) ?_
                    replace B : Bx _ _ [⟨g141, 26, #[Sl.v y139.1, Sl.v y139.2.1, .int .i64 y139.2.2.1]⟩, ⟨g51, 26, #[Sl.v y49.1, Sl.v y49.2.1, .int .i64 y49.2.2.1]⟩, ⟨g45, 26, #[Sl.v y43.1, Sl.v y43.2.1, .int .i64 y43.2.2]⟩, ⟨g39, 26, #[Sl.v y37.1, Sl.v y37.2.1, .int .i64 y37.2.2.1]⟩, ⟨g5, 42, #[Sl.v a0_0, Sl.v a0_1, .int .i64 a0_2]⟩] := B
                    clear hr
                    refine stp (v := .bool y139.2.2.2) rfl rfl (r_assign rfl rfl) ?_
                    refine fin ?_
                    refine n135 _ _ ?_
                    refine c_seq (fun Q144 n142 o143 => ?_)
                    refine c_seqj (fun a w => ∃ (j3_105 : Bool) (g : Nat → Value) (N : NP), a = A 114 (updl g [(13, .pointer (some ⟨g51, 0, none⟩)), (16, .int .i64 y107), (105, .bool j3_105)]) ∧ Bx w N [⟨g141, 26, #[Sl.v y139.1, Sl.v y139.2.1, .int .i64 y139.2.2.1]⟩, ⟨g51, 26, #[Sl.v y49.1, Sl.v y49.2.1, .int .i64 y49.2.2.1]⟩, ⟨g45, 26, #[Sl.v y43.1, Sl.v y43.2.1, .int .i64 y43.2.2]⟩, ⟨g39, 26, #[Sl.v y37.1, Sl.v y37.2.1, .int .i64 y37.2.2.1]⟩, ⟨g5, 42, #[Sl.v a0_0, Sl.v a0_1, .int .i64 a0_2]⟩] ∧ Aft w N (f4_laws_FnExactPutLeaf.J3 R y49 y107 j3_105)) (fun Q147 n145 o146 => ?_) ?_
                    ·
                      refine c_region ?_
                      refine stp (v := .agg #[Sl.v y139.1, Sl.v y139.2.1, .int .i64 y139.2.2.1]) rfl rfl (r_load (v1 := .pointer (some ⟨g141, 0, none⟩)) rfl rfl (bxn (B.get 0 rfl) Try.underlying26 rfl sz26)) ?_
                      refine stp (v := .agg #[Sl.v y37.1, Sl.v y37.2.1, .int .i64 y37.2.2.1]) rfl rfl (r_load (v1 := .pointer (some ⟨g39, 0, none⟩)) rfl rfl (bxn (B.get 3 rfl) Try.underlying26 rfl sz26)) ?_
                      refine stpc rfl rfl (r_call (vs := [.agg #[Sl.v y139.1, Sl.v y139.2.1, .int .i64 y139.2.2.1], .agg #[Sl.v y37.1, Sl.v y37.2.1, .int .i64 y37.2.2.1]]) rfl rfl (ca15 _ _)) ?_
                      refine at_call B H (fun y148 w B H => ?_)
                      refine stp (v := .bool (!y148)) rfl rfl (r_not (b := y148) rfl rfl) ?_
                      refine stp (v := .bool (!y148)) rfl rfl (r_move rfl rfl) ?_
                      rcases Bool.eq_false_or_eq_true (!y148) with hb149 | hb149
                      · replace H := at_itet hb149 H
                        refine skp (un rfl rfl rfl rfl (congrArg Value.bool hb149) nofun) rfl ?_
                        refine skp (un rfl rfl rfl rfl (congrArg Value.bool hb149) nofun) rfl ?_
                        refine skp (un rfl rfl rfl rfl (congrArg Value.bool hb149) nofun) rfl ?_
                        refine stp (v := .bool true) rfl rfl (r_pickt rfl (congrArg Value.bool hb149) rfl) ?_
                        refine fin ?_
                        exact n145 _ _ ⟨true, _, _, fr_self rfl, B, H⟩
                      · replace H := at_itef hb149 H
                        refine stp (v := .bool y139.2.2.2) (wn rfl rfl rfl rfl (congrArg Value.bool hb149)) rfl (r_move rfl rfl) ?_
                        refine stp (v := .bool y37.2.2.2) (wn rfl rfl rfl rfl (congrArg Value.bool hb149)) rfl (r_move rfl rfl) ?_
                        refine stp (v := .bool (!(y139.2.2.2 == y37.2.2.2))) (wn rfl rfl rfl rfl (congrArg Value.bool hb149)) rfl (r_bneq (s := y139.2.2.2) (t := y37.2.2.2) rfl rfl rfl Try.underlying4) ?_
                        refine stp (v := .bool (!(y139.2.2.2 == y37.2.2.2))) rfl rfl (r_pickf rfl (congrArg Value.bool hb149) rfl) ?_
                        refine fin ?_
                        exact n145 _ _ ⟨!(y139.2.2.2 == y37.2.2.2), _, _, fr_self rfl, B, H⟩
                    ·
                      rintro _ w ⟨j3_105, g, N, rfl, B, H⟩
                      refine c_cond (b := j3_105) rfl (fun hb150 => ?_) (fun hb150 => ?_)
                      · replace H := at_itet hb150 H
                        refine c_seq (fun Q153 n151 o152 => ?_)
                        refine c_region ?_
                        refine stp (v := .bool false) rfl rfl (r_assign rfl rfl) ?_
                        refine fin ?_
                        refine n151 _ _ ?_
                        refine c_ret (o143 _ _ _ nofun ((done (vs := [.bool false]) (.tmp rfl .nil) rfl ⟨_, rfl, H.now⟩)))
                      · replace H := at_itef hb150 H
                        refine c_skip ?_
                        refine n142 _ _ ?_
                        refine c_seq (fun Q156 n154 o155 => ?_)
                        refine c_region ?_
                        refine stp (v := .int .i64 1) rfl rfl (r_assign rfl rfl) ?_
                        refine fin ?_
                        refine n154 _ _ ?_
                        refine c_seq (fun Q159 n157 o158 => ?_)
                        refine c_region ?_
                        refine stp (v := .agg #[Sl.v y49.1, Sl.v y49.2.1, .int .i64 y49.2.2.1]) rfl rfl (r_load (v1 := .pointer (some ⟨g51, 0, none⟩)) rfl rfl (bxn (B.get 1 rfl) Try.underlying26 rfl sz26)) ?_
                        refine stp (v := .int .i64 1) rfl rfl (r_move rfl rfl) ?_
                        refine stpc rfl rfl (r_call (vs := [.agg #[Sl.v y49.1, Sl.v y49.2.1, .int .i64 y49.2.2.1], .int .i64 1]) rfl rfl (ca17 _ _)) ?_
                        refine at_call B H (fun y160 w B H => ?_)
                        refine stp (v := .int .i64 y160) rfl rfl (r_assign rfl rfl) ?_
                        refine fin ?_
                        refine n157 _ _ ?_
                        refine c_seq (fun Q163 n161 o162 => ?_)
                        refine c_seq (fun Q166 n164 o165 => ?_)
                        refine c_region ?_
                        refine stp (v := .int .i64 y160) rfl rfl (r_move rfl rfl) ?_
                        refine stp (v := .bool (decide (y160 < 0))) rfl rfl (r_lss (a := y160) (b := 0) rfl rfl rfl) ?_
                        refine fin ?_
                        refine n164 _ _ ?_
                        refine c_cond (b := decide (y160 < 0)) rfl (fun hb167 => ?_) (fun hb167 => ?_)
                        · replace H := at_itet hb167 H
                          refine c_seq (fun Q170 n168 o169 => ?_)
                          refine c_region ?_
                          refine stp (v := .bool false) rfl rfl (r_assign rfl rfl) ?_
                          refine fin ?_
                          refine n168 _ _ ?_
                          refine c_ret (o162 _ _ _ nofun ((done (vs := [.bool false]) (.tmp rfl .nil) rfl ⟨_, rfl, H.now⟩)))
                        · replace H := at_itef hb167 H
                          refine c_skip ?_
                          refine n161 _ _ ?_
                          refine c_seq (fun Q173 n171 o172 => ?_)
                          refine c_seq (fun Q176 n174 o175 => ?_)
                          refine c_region ?_
                          refine stp (v := .int .i64 y160) rfl rfl (r_move rfl rfl) ?_
                          refine stp (v := .int .i64 y107) rfl rfl (r_move rfl rfl) ?_
                          refine stp (v := .bool (y160 != y107)) rfl rfl (r_neq (a := y160) (b := y107) rfl rfl rfl) ?_
                          refine fin ?_
                          refine n174 _ _ ?_
                          refine c_cond (b := y160 != y107) rfl (fun hb177 => ?_) (fun hb177 => ?_)
                          · replace H := at_itet hb177 H
                            refine c_seq (fun Q180 n178 o179 => ?_)
                            refine c_region ?_
                            refine stp (v := .bool false) rfl rfl (r_assign rfl rfl) ?_
                            refine fin ?_
                            refine n178 _ _ ?_
                            refine c_ret (o172 _ _ _ nofun ((done (vs := [.bool false]) (.tmp rfl .nil) rfl ⟨_, rfl, H.now⟩)))
                          · replace H := at_itef hb177 H
                            refine c_skip ?_
                            refine n171 _ _ ?_
                            refine c_seq (fun Q183 n181 o182 => ?_)
                            refine c_region ?_
                            refine stp (v := .bool true) rfl rfl (r_assign rfl rfl) ?_
                            refine fin ?_
                            refine n181 _ _ ?_
                            refine c_ret ((done (vs := [.bool true]) (.tmp rfl .nil) rfl ⟨_, rfl, H.now⟩))

/-! ### spec.DrawPutLeaf/5 -/
def f5_spec_DrawPutLeaf.T (R : Value → World → Prop) (a0 : Sl) : Tm :=
  T.new (.cells #[Sl.v a0, .int .i64 0, .int .u64 0] 51) fun (g10 : Nat) => T.call Try.prog 18 [.pointer (some (⟨g10, 0, none⟩ : Addr))] (fun (z : Sl × Sl × Int) => .agg #[Sl.v z.1, Sl.v z.2.1, .int .i64 z.2.2]) fun (y14 : Sl × Sl × Int) => T.call Try.prog 19 [.pointer (some (⟨g10, 0, none⟩ : Addr)), .int .i64 (IntKind.i64.wrap ((y14.2.1.n : Int) + 1))] (Value.int .i64) fun (y25 : Int) => T.call Try.prog 19 [.pointer (some (⟨g10, 0, none⟩ : Addr)), .int .i64 17] (Value.int .i64) fun (y31 : Int) => T.new (.cells #[.string (⟨#[]⟩ : ByteArray), .string (⟨#[120]⟩ : ByteArray), .string (⟨#[97]⟩ : ByteArray), .string (⟨#[49, 50, 51, 52, 53, 54, 55, 56, 57]⟩ : ByteArray), .string (⟨#[49, 50, 51, 52, 53, 54, 55, 56]⟩ : ByteArray)] 9) fun (g37 : Nat) => T.call Try.prog 20 [.pointer (some (⟨g10, 0, none⟩ : Addr)), Sl.v (⟨some ⟨g37, 0, none⟩, 5, 5⟩ : Sl)] Value.string fun (y38 : ByteArray) => T.ret R (.tuple #[.agg #[Sl.v y14.1, Sl.v y14.2.1, .int .i64 y14.2.2], .int .i64 y25, .int .i64 y31, .string y38])
set_option maxHeartbeats 4000000 in
set_option maxRecDepth 100000 in
theorem f5_spec_DrawPutLeaf.ok (R : Value → World → Prop) (a0 : Sl) (w : World) (h : Aft w (fun _ => False) (f5_spec_DrawPutLeaf.T R a0)) :
    Calls Try.prog 5 (List.toArray [Sl.v a0]) w fun e w' => ∃ v, e = .returned v ∧ R v w' := by
  refine enter 25 Try.func5 rfl rfl rfl ?_
  have B := Bx.nil w
  have H := h
  clear h
  refine c_seq (fun Q3 n1 o2 => ?_)
  refine c_region ?_
  obtain ⟨w4, N, g5, hw, hg, B, H⟩ := B.new H 26 #[Sl.v Sl.nil, Sl.v Sl.nil, .int .i64 0]
  refine stp (v := .pointer (some ⟨g5, 0, none⟩)) (w' := w4) rfl rfl (r_alloc rfl (alloc_run (al26 _) hw hg)) ?_
  clear hw hg
  refine stp (v := .int .i64 0) rfl rfl (r_assign rfl rfl) ?_
  refine stp (v := .int .i64 0) rfl rfl (r_assign rfl rfl) ?_
  refine stp (v := .string (⟨#[]⟩ : ByteArray)) rfl rfl (r_assign rfl rfl) ?_
  refine fin ?_
  refine n1 _ _ ?_
  refine c_seq (fun Q8 n6 o7 => ?_)
  refine c_region ?_
  refine stp (v := Sl.v a0) rfl rfl (r_move rfl rfl) ?_
  refine stp (v := .agg #[Sl.v a0, .int .i64 0, .int .u64 0]) rfl rfl (r_build (qs := [(0, Sl.v a0)]) rfl rfl (site0 a0 _)) ?_
  obtain ⟨w9, g10, hw, hg, B, H⟩ := at_new' B H
  refine stp (v := .pointer (some ⟨g10, 0, none⟩)) (w' := w9) rfl rfl (r_box (v1 := .agg #[Sl.v a0, .int .i64 0, .int .u64 0]) rfl rfl (box_run rfl hw hg)) ?_
  clear hw hg
  refine stp (v := .pointer (some (⟨g10, 0, none⟩ : Addr))) rfl rfl (r_assign rfl rfl) ?_
  refine fin ?_
  refine n6 _ _ ?_
  refine c_seq (fun Q13 n11 o12 => ?_)
  refine c_region ?_
  refine stp (v := .pointer (some (⟨g10, 0, none⟩ : Addr))) rfl rfl (r_move rfl rfl) ?_
  refine stpc rfl rfl (r_call (vs := [.pointer (some (⟨g10, 0, none⟩ : Addr))]) rfl rfl (ca18 _ _)) ?_
  refine at_call B H (fun y14 w B H => ?_)
  obtain ⟨w15, N, g16, hw, hg, B, H⟩ := B.new H 26 #[Sl.v Sl.nil, Sl.v Sl.nil, .int .i64 0]
  refine stp (v := .pointer (some ⟨g16, 0, none⟩)) (w' := w15) rfl rfl (r_alloc rfl (alloc_run (al26 _) hw hg)) ?_
  clear hw hg
  obtain ⟨w2, hr, B, H⟩ := B.stn H (i := 0) (T := 26) (cs' := #[Sl.v y14.1, Sl.v y14.2.1, .int .i64 y14.2.2]) (ad := ⟨g16, 0, none⟩) rfl rfl rfl rfl sz26
  refine stp0 rfl rfl (r_store (v1 := .pointer (some ⟨g16, 0, none⟩)) (v2 := .agg #[Sl.v y14.1, Sl.v y14.2.1, .int .i64 y14.2.2]) rfl rfl rfl hr) ?_
  replace B : Bx _ _ [⟨g16, 26, #[Sl.v y14.1, Sl.v y14.2.1, .int .i64 y14.2.2]⟩, ⟨g5, 26, #[Sl.v Sl.nil, Sl.v Sl.nil, .int .i64 0]⟩] := B
  clear hr
  refine fin ?_
  refine n11 _ _ ?_
  refine c_seq (fun Q19 n17 o18 => ?_)
  refine c_open 12 (kap [6, 8, 11] [10]) (fun i b => bif Nat.beq i 10 then .slice (some ⟨b, 0, none⟩) 5 5 else .pointer (some ⟨b, 0, none⟩)) (fun _ => []) (fun i => bif Nat.beq i 11 then [(10, 23)] else []) [0, 1, 2, 3, 4, 5, 7, 9, 6, 8, 11] [(10, 23)] [(10, 9, #[.string (⟨#[]⟩ : ByteArray), .string (⟨#[120]⟩ : ByteArray), .string (⟨#[97]⟩ : ByteArray), .string (⟨#[49, 50, 51, 52, 53, 54, 55, 56, 57]⟩ : ByteArray), .string (⟨#[49, 50, 51, 52, 53, 54, 55, 56]⟩ : ByteArray)])] _ rfl (by kernel_rfl) (by kernel_rfl) rfl B (flk (by simp) (al_cons rfl (.inr rfl) (fun _ g hg => (r_buildSlice (qs := [(0, .string (⟨#[]⟩ : ByteArray)), (1, .string (⟨#[120]⟩ : ByteArray)), (2, .string (⟨#[97]⟩ : ByteArray)), (3, .string (⟨#[49, 50, 51, 52, 53, 54, 55, 56, 57]⟩ : ByteArray)), (4, .string (⟨#[49, 50, 51, 52, 53, 54, 55, 56]⟩ : ByteArray))]) rfl rfl (bs_run (site1 (⟨#[]⟩ : ByteArray) (⟨#[120]⟩ : ByteArray) (⟨#[97]⟩ : ByteArray) (⟨#[49, 50, 51, 52, 53, 54, 55, 56, 57]⟩ : ByteArray) (⟨#[49, 50, 51, 52, 53, 54, 55, 56]⟩ : ByteArray) _) rfl rfl))) al_nil)) ?_
  refine ph_q (v := .agg #[Sl.v y14.1, Sl.v y14.2.1, .int .i64 y14.2.2]) rfl rfl rfl (hv_ok rfl rfl) (qy_val rfl (fun w_ ρ_ hb_ => (r_load (v1 := .pointer (some ⟨g16, 0, none⟩)) rfl rfl (bxn (hb_.get 0 rfl) Try.underlying26 rfl sz26)))) ?_
  refine ph_q (v := .pointer (some (⟨g10, 0, none⟩ : Addr))) rfl rfl rfl (hv_ok rfl rfl) (qy_val rfl (fun w_ ρ_ hb_ => (r_move rfl rfl))) ?_
  refine ph_q (v := .pointer (some ⟨g16, 1, none⟩)) rfl rfl rfl (hv_ok rfl rfl) (qy_val rfl (fun w_ ρ_ hb_ => (r_fieldAddr (v1 := .pointer (some ⟨g16, 0, none⟩)) rfl rfl (fld26_1 _ _)))) ?_
  refine ph_q (v := Sl.v y14.2.1) rfl rfl rfl (hv_ok rfl rfl) (qy_val rfl (fun w_ ρ_ hb_ => (r_load (v1 := .pointer (some ⟨g16, 1, none⟩)) rfl rfl (ld1 Try.underlying24 rfl (bx1 (hb_.get 0 rfl) rfl rfl))))) ?_
  refine ph_q (v := .int .i64 (y14.2.1.n : Int)) rfl rfl rfl (hv_ok rfl rfl) (qy_val rfl (fun w_ ρ_ hb_ => (r_builtin (vs := [Sl.v y14.2.1]) rfl rfl (fun _ => lenl Try.underlying24)))) ?_
  refine ph_q (v := .int .i64 (IntKind.i64.wrap ((y14.2.1.n : Int) + 1))) rfl rfl rfl (hv_ok rfl rfl) (qy_val rfl (fun w_ ρ_ hb_ => (r_add (a := (y14.2.1.n : Int)) (b := 1) rfl rfl rfl))) ?_
  refine ph_q (v := .pointer (some (⟨g10, 0, none⟩ : Addr))) rfl rfl rfl (hv_ok rfl rfl) (qy_val rfl (fun w_ ρ_ hb_ => (r_move rfl rfl))) ?_
  refine ph_q (v := .pointer (some (⟨g10, 0, none⟩ : Addr))) rfl rfl rfl (hv_ok rfl rfl) (qy_val rfl (fun w_ ρ_ hb_ => (r_move rfl rfl))) ?_
  refine ph_e rfl rfl (fun w20 ρ24 hc hs => ?_)
  obtain ⟨hx, N21, hz22, B23⟩ := hc
  replace H := H.step hz22
  clear hz22
  refine ef_call rfl (r_call (vs := [.pointer (some (⟨g10, 0, none⟩ : Addr)), .int .i64 (IntKind.i64.wrap ((y14.2.1.n : Int) + 1))]) rfl rfl (ca19 _ _)) (at_call B23 H (fun y25 w2 B H => ?_))
  refine ⟨Cls w2 N21 [⟨g16, 26, #[Sl.v y14.1, Sl.v y14.2.1, .int .i64 y14.2.2]⟩, ⟨g5, 26, #[Sl.v Sl.nil, Sl.v Sl.nil, .int .i64 0]⟩] [(10, 9, #[.string (⟨#[]⟩ : ByteArray), .string (⟨#[120]⟩ : ByteArray), .string (⟨#[97]⟩ : ByteArray), .string (⟨#[49, 50, 51, 52, 53, 54, 55, 56, 57]⟩ : ByteArray), .string (⟨#[49, 50, 51, 52, 53, 54, 55, 56]⟩ : ByteArray)])] [], Cls.now hx B, (flk (by simp) (al_cons rfl (.inr rfl) (fun _ g hg => (r_buildSlice (qs := [(0, .string (⟨#[]⟩ : ByteArray)), (1, .string (⟨#[120]⟩ : ByteArray)), (2, .string (⟨#[97]⟩ : ByteArray)), (3, .string (⟨#[49, 50, 51, 52, 53, 54, 55, 56, 57]⟩ : ByteArray)), (4, .string (⟨#[49, 50, 51, 52, 53, 54, 55, 56]⟩ : ByteArray))]) rfl rfl (bs_run (site1 (⟨#[]⟩ : ByteArray) (⟨#[120]⟩ : ByteArray) (⟨#[97]⟩ : ByteArray) (⟨#[49, 50, 51, 52, 53, 54, 55, 56, 57]⟩ : ByteArray) (⟨#[49, 50, 51, 52, 53, 54, 55, 56]⟩ : ByteArray) _) rfl rfl))) al_nil)), (pd_anc (re := [9, 7, 0]) (by kernel_rfl) (re_cons rfl rfl rfl (qy_val rfl (fun w_ ρ_ hb_ => (r_move rfl rfl))) (re_cons rfl rfl rfl (qy_val rfl (fun w_ ρ_ hb_ => (r_move rfl rfl))) (re_cons rfl rfl rfl (qy_val rfl (fun w_ ρ_ hb_ => (r_load (v1 := .pointer (some ⟨g16, 0, none⟩)) rfl rfl (bxn (hb_.get 0 rfl) Try.underlying26 rfl sz26)))) re_nil)))), ?_⟩
  clear hx
  replace B := B.sub (List.sublist_append_right _ _)
  refine ph_e rfl rfl (fun w26 ρ30 hc hs => ?_)
  obtain ⟨hx, N27, hz28, B29⟩ := hc
  replace H := H.step hz28
  clear hz28
  refine ef_call rfl (r_call (vs := [.pointer (some (⟨g10, 0, none⟩ : Addr)), .int .i64 17]) rfl rfl (ca19 _ _)) (at_call B29 H (fun y31 w2 B H => ?_))
  refine ⟨Cls w2 N27 [⟨g16, 26, #[Sl.v y14.1, Sl.v y14.2.1, .int .i64 y14.2.2]⟩, ⟨g5, 26, #[Sl.v Sl.nil, Sl.v Sl.nil, .int .i64 0]⟩] [(10, 9, #[.string (⟨#[]⟩ : ByteArray), .string (⟨#[120]⟩ : ByteArray), .string (⟨#[97]⟩ : ByteArray), .string (⟨#[49, 50, 51, 52, 53, 54, 55, 56, 57]⟩ : ByteArray), .string (⟨#[49, 50, 51, 52, 53, 54, 55, 56]⟩ : ByteArray)])] [], Cls.now hx B, (flk (by simp) (al_cons rfl (.inr rfl) (fun _ g hg => (r_buildSlice (qs := [(0, .string (⟨#[]⟩ : ByteArray)), (1, .string (⟨#[120]⟩ : ByteArray)), (2, .string (⟨#[97]⟩ : ByteArray)), (3, .string (⟨#[49, 50, 51, 52, 53, 54, 55, 56, 57]⟩ : ByteArray)), (4, .string (⟨#[49, 50, 51, 52, 53, 54, 55, 56]⟩ : ByteArray))]) rfl rfl (bs_run (site1 (⟨#[]⟩ : ByteArray) (⟨#[120]⟩ : ByteArray) (⟨#[97]⟩ : ByteArray) (⟨#[49, 50, 51, 52, 53, 54, 55, 56, 57]⟩ : ByteArray) (⟨#[49, 50, 51, 52, 53, 54, 55, 56]⟩ : ByteArray) _) rfl rfl))) al_nil)), (pd_anc (re := [9, 0]) (by kernel_rfl) (re_cons rfl rfl rfl (qy_val rfl (fun w_ ρ_ hb_ => (r_move rfl rfl))) (re_cons rfl rfl rfl (qy_val rfl (fun w_ ρ_ hb_ => (r_load (v1 := .pointer (some ⟨g16, 0, none⟩)) rfl rfl (bxn (hb_.get 0 rfl) Try.underlying26 rfl sz26)))) re_nil))), ?_⟩
  clear hx
  replace B := B.sub (List.sublist_append_right _ _)
  refine ph_e rfl rfl (fun w32 ρ36 hc hs => ?_)
  obtain ⟨hx, N33, hz34, B35⟩ := hc
  replace H := H.step hz34
  clear hz34
  obtain ⟨g37, hg10⟩ := Option.isSome_iff_exists.1 (hs (10, 23) (by simp))
  obtain ⟨N33, B35, H⟩ := at_pub (g := g37) (T := 9) (cs := #[.string (⟨#[]⟩ : ByteArray), .string (⟨#[120]⟩ : ByteArray), .string (⟨#[97]⟩ : ByteArray), .string (⟨#[49, 50, 51, 52, 53, 54, 55, 56, 57]⟩ : ByteArray), .string (⟨#[49, 50, 51, 52, 53, 54, 55, 56]⟩ : ByteArray)]) (bs := flb [] ρ36 ++ [⟨g16, 26, #[Sl.v y14.1, Sl.v y14.2.1, .int .i64 y14.2.2]⟩, ⟨g5, 26, #[Sl.v Sl.nil, Sl.v Sl.nil, .int .i64 0]⟩]) (by simpa only [flb, List.filterMap_cons, hg10, Option.map_some, List.cons_append] using B35) H
  replace hx := hx_cons hg10 hx
  refine EF_frame (f' := updl _ [(23, .slice (some ⟨g37, 0, none⟩) 5 5)]) (wfl_cons hg10 rfl wfl_nil) ?_
  refine ef_call rfl (r_call (vs := [.pointer (some (⟨g10, 0, none⟩ : Addr)), Sl.v (⟨some ⟨g37, 0, none⟩, 5, 5⟩ : Sl)]) rfl rfl (ca20 _ _)) (at_call B35 H (fun y38 w2 B H => ?_))
  refine ⟨Cls w2 N33 [⟨g16, 26, #[Sl.v y14.1, Sl.v y14.2.1, .int .i64 y14.2.2]⟩, ⟨g5, 26, #[Sl.v Sl.nil, Sl.v Sl.nil, .int .i64 0]⟩] [] [(10, g37)], Cls.now hx B, (flk (by simp) (al_cons rfl (.inl rfl) (fun _ g hg => (r_buildSlice (qs := [(0, .string (⟨#[]⟩ : ByteArray)), (1, .string (⟨#[120]⟩ : ByteArray)), (2, .string (⟨#[97]⟩ : ByteArray)), (3, .string (⟨#[49, 50, 51, 52, 53, 54, 55, 56, 57]⟩ : ByteArray)), (4, .string (⟨#[49, 50, 51, 52, 53, 54, 55, 56]⟩ : ByteArray))]) rfl rfl (bs_run (site1 (⟨#[]⟩ : ByteArray) (⟨#[120]⟩ : ByteArray) (⟨#[97]⟩ : ByteArray) (⟨#[49, 50, 51, 52, 53, 54, 55, 56, 57]⟩ : ByteArray) (⟨#[49, 50, 51, 52, 53, 54, 55, 56]⟩ : ByteArray) _) rfl rfl))) al_nil)), (pd_anc (re := [0]) (by kernel_rfl) (re_cons rfl rfl rfl (qy_val rfl (fun w_ ρ_ hb_ => (r_load (v1 := .pointer (some ⟨g16, 0, none⟩)) rfl rfl (bxn (hb_.get 0 rfl) Try.underlying26 rfl sz26)))) re_nil)), ?_⟩
  clear hx
  replace B := B.sub (List.sublist_append_right _ _)
  refine ph_nil (fun w ρ N hz hx B hs => ?_)
  replace H := H.step hz
  have hg10 := hx (10, g37) (by simp)
  replace hg10 : ρ 10 = some g37 := hg10
  replace B : Bx w N [⟨g16, 26, #[Sl.v y14.1, Sl.v y14.2.1, .int .i64 y14.2.2]⟩, ⟨g5, 26, #[Sl.v Sl.nil, Sl.v Sl.nil, .int .i64 0]⟩] := by simpa only [flb, List.filterMap_cons, List.filterMap_nil, hg10, Option.map_some, List.cons_append, List.nil_append] using B
  refine WL_frame (f' := updl _ [(23, .slice (some ⟨g37, 0, none⟩) 5 5)]) (wfl_cons hg10 rfl wfl_nil) ?_
  obtain ⟨w2, hr, B, H⟩ := B.stn H (i := 1) (T := 26) (cs' := #[Sl.v y14.1, Sl.v y14.2.1, .int .i64 y14.2.2]) (ad := ⟨g5, 0, none⟩) rfl rfl rfl rfl sz26
  refine stp0 rfl rfl (r_store (v1 := .pointer (some ⟨g5, 0, none⟩)) (v2 := .agg #[Sl.v y14.1, Sl.v y14.2.1, .int .i64 y14.2.2]) rfl rfl rfl hr) ?_
  replace B : Bx _ _ [⟨g16, 26, #[Sl.v y14.1, Sl.v y14.2.1, .int .i64 y14.2.2]⟩, ⟨g5, 26, #[Sl.v y14.1, Sl.v y14.2.1, .int .i64 y14.2.2]⟩] := B
  clear hr
  refine stp (v := .int .i64 y25) rfl rfl (r_assign rfl rfl) ?_
  refine stp (v := .int .i64 y31) rfl rfl (r_assign rfl rfl) ?_
  refine stp (v := .string y38) rfl rfl (r_assign rfl rfl) ?_
  refine fin ?_
  refine n17 _ _ ?_
  refine c_ret ((done (vs := [.agg #[Sl.v y14.1, Sl.v y14.2.1, .int .i64 y14.2.2], .int .i64 y25, .int .i64 y31, .string y38]) (.cell rfl (bxn (B.get 1 rfl) Try.underlying26 rfl sz26) (.tmp rfl (.tmp rfl (.tmp rfl .nil)))) rfl ⟨_, rfl, H.now⟩))

/-! ### impl.PutLeaf/6 -/
def f6_impl_PutLeaf.J2 (R : Value → World → Prop) (y26 : (Option Addr)) : Tm :=
  T.nn y26 fun (p67 : Addr) => T.ldc (p67.add 0) Sl.v fun (x69_0 : Sl) => T.ldc (p67.add 1) Sl.v fun (x69_1 : Sl) => T.ldc (p67.add 2) (Value.int .i64) fun (x69_2 : Int) => T.call Try.prog 8 [.agg #[Sl.v x69_0, Sl.v x69_1, .int .i64 x69_2]] Value.bool fun (y73 : Bool) => T.ite (!y73) (T.ret R (.tuple #[.agg #[Sl.v Sl.nil, Sl.v Sl.nil, .int .i64 0], .bool false])) (T.nn y26 fun (p81 : Addr) => T.ldc (p81.add 0) Sl.v fun (x83_0 : Sl) => T.ldc (p81.add 1) Sl.v fun (x83_1 : Sl) => T.ldc (p81.add 2) (Value.int .i64) fun (x83_2 : Int) => T.ret R (.tuple #[.agg #[Sl.v x83_0, Sl.v x83_1, .int .i64 x83_2], .bool true]))
def f6_impl_PutLeaf.J1 (R : Value → World → Prop) (a0_0 : Sl) (a0_1 : Sl) (a0_2 : Int) (a1 : Int) (a2 : Int) (a3 : ByteArray) (j1_27 : Bool) : Tm :=
  T.ite j1_27 (T.ret R (.tuple #[.agg #[Sl.v Sl.nil, Sl.v Sl.nil, .int .i64 0], .bool false])) (T.call Try.prog 24 [.agg #[Sl.v a0_0, Sl.v a0_1, .int .i64 a0_2]] Value.pointer fun (y26 : (Option Addr)) => T.call Try.prog 25 [.agg #[Sl.v a0_0, Sl.v a0_1, .int .i64 a0_2], .int .i64 a1, .int .i64 a2] Value.string fun (y33 : ByteArray) => T.ite (!(y33.toList == a3.toList)) (T.nn y26 fun (p35 : Addr) => T.ldc (p35.add 1) Sl.v fun (x37 : Sl) => T.nn y26 fun (p39 : Addr) => T.ldc (p39.add 1) Sl.v fun (x41 : Sl) => T.idx x41 a1 1 fun (p44 : Addr) => T.ldc p44 (Value.int .i64) fun (x49 : Int) => T.call Try.prog 26 [.pointer y26, .int .i64 x49, .int .i64 a0_2, .int .i64 a2, .string a3] (Value.int .i64) fun (y56 : Int) => T.chk (p35.add 1) Sl.v x37 (T.idx x37 a1 1 fun (p58 : Addr) => T.stc p58 (.int .i64 y56) (f6_impl_PutLeaf.J2 R y26 ))) (f6_impl_PutLeaf.J2 R y26 ))
def f6_impl_PutLeaf.T (R : Value → World → Prop) (a0_0 : Sl) (a0_1 : Sl) (a0_2 : Int) (a1 : Int) (a2 : Int) (a3 : ByteArray) : Tm :=
  T.call Try.prog 21 [.agg #[Sl.v a0_0, Sl.v a0_1, .int .i64 a0_2], .int .i64 a1] Value.bool fun (y14 : Bool) => T.ite (!y14) (f6_impl_PutLeaf.J1 R a0_0 a0_1 a0_2 a1 a2 a3 true) (T.call Try.prog 23 [.agg #[Sl.v a0_0, Sl.v a0_1, .int .i64 a0_2]] (Value.int .i64) fun (y16 : Int) => T.call Try.prog 22 [.int .i64 a2, .int .i64 0, .int .i64 (IntKind.i64.wrap (y16 - 1))] Value.bool fun (y17 : Bool) => T.ite (!y17) (f6_impl_PutLeaf.J1 R a0_0 a0_1 a0_2 a1 a2 a3 true) (f6_impl_PutLeaf.J1 R a0_0 a0_1 a0_2 a1 a2 a3 (decide (8 < (a3.size : Int)))))
set_option maxHeartbeats 4000000 in
set_option maxRecDepth 100000 in
theorem f6_impl_PutLeaf.ok (R : Value → World → Prop) (a0_0 : Sl) (a0_1 : Sl) (a0_2 : Int) (a1 : Int) (a2 : Int) (a3 : ByteArray) (w : World) (h : Aft w (fun _ => False) (f6_impl_PutLeaf.T R a0_0 a0_1 a0_2 a1 a2 a3)) :
    Calls Try.prog 6 (List.toArray [.agg #[Sl.v a0_0, Sl.v a0_1, .int .i64 a0_2], .int .i64 a1, .int .i64 a2, .string a3]) w fun e w' => ∃ v, e = .returned v ∧ R v w' := by
  refine enter 65 Try.func6 rfl rfl rfl ?_
  have B := Bx.nil w
  have H := h
  clear h
  refine c_seq (fun Q3 n1 o2 => ?_)
  refine c_region ?_
  obtain ⟨w4, N, g5, hw, hg, B, H⟩ := B.new H 26 #[Sl.v a0_0, Sl.v a0_1, .int .i64 a0_2]
  refine stp (v := .pointer (some ⟨g5, 0, none⟩)) (w' := w4) rfl rfl (r_box (v1 := .agg #[Sl.v a0_0, Sl.v a0_1, .int .i64 a0_2]) rfl rfl (box_run rfl hw hg)) ?_
  clear hw hg
  obtain ⟨w6, N, g7, hw, hg, B, H⟩ := B.new H 26 #[Sl.v Sl.nil, Sl.v Sl.nil, .int .i64 0]
  refine stp (v := .pointer (some ⟨g7, 0, none⟩)) (w' := w6) rfl rfl (r_alloc rfl (alloc_run (al26 _) hw hg)) ?_
  clear hw hg
  refine stp (v := .bool false) rfl rfl (r_assign rfl rfl) ?_
  refine fin ?_
  refine n1 _ _ ?_
  refine c_seq (fun Q10 n8 o9 => ?_)
  refine c_seqj (fun a w => ∃ (j1_27 : Bool) (g : Nat → Value) (N : NP), a = A 65 (updl g [(1, .int .i64 a1), (2, .int .i64 a2), (3, .string a3), (4, .pointer (some ⟨g5, 0, none⟩)), (8, .pointer (some ⟨g7, 0, none⟩)), (27, .bool j1_27)]) ∧ Bx w N [⟨g7, 26, #[Sl.v Sl.nil, Sl.v Sl.nil, .int .i64 0]⟩, ⟨g5, 26, #[Sl.v a0_0, Sl.v a0_1, .int .i64 a0_2]⟩] ∧ Aft w N (f6_impl_PutLeaf.J1 R a0_0 a0_1 a0_2 a1 a2 a3 j1_27)) (fun Q13 n11 o12 => ?_) ?_
  ·
    refine c_region ?_
    refine stp (v := .agg #[Sl.v a0_0, Sl.v a0_1, .int .i64 a0_2]) rfl rfl (r_load (v1 := .pointer (some ⟨g5, 0, none⟩)) rfl rfl (bxn (B.get 1 rfl) Try.underlying26 rfl sz26)) ?_
    refine stp (v := .int .i64 a1) rfl rfl (r_move rfl rfl) ?_
    refine stpc rfl rfl (r_call (vs := [.agg #[Sl.v a0_0, Sl.v a0_1, .int .i64 a0_2], .int .i64 a1]) rfl rfl (ca21 _ _)) ?_
    refine at_call B H (fun y14 w B H => ?_)
    refine stp (v := .bool (!y14)) rfl rfl (r_not (b := y14) rfl rfl) ?_
    refine stp (v := .bool (!y14)) rfl rfl (r_move rfl rfl) ?_
    rcases Bool.eq_false_or_eq_true (!y14) with hb15 | hb15
    · replace H := at_itet hb15 H
      refine skp (un rfl rfl rfl rfl (congrArg Value.bool hb15) nofun) rfl ?_
      refine skp (un rfl rfl rfl rfl (congrArg Value.bool hb15) nofun) rfl ?_
      refine skp (un rfl rfl rfl rfl (congrArg Value.bool hb15) nofun) rfl ?_
      refine skp (un rfl rfl rfl rfl (congrArg Value.bool hb15) nofun) rfl ?_
      refine skp (un rfl rfl rfl rfl (congrArg Value.bool hb15) nofun) rfl ?_
      refine skp (un rfl rfl rfl rfl (congrArg Value.bool hb15) nofun) rfl ?_
      refine stp (v := .bool true) rfl rfl (r_pickt rfl (congrArg Value.bool hb15) rfl) ?_
      refine stp (v := .bool true) rfl rfl (r_move rfl rfl) ?_
      refine skp (un rfl rfl rfl rfl rfl nofun) rfl ?_
      refine skp (un rfl rfl rfl rfl rfl nofun) rfl ?_
      refine skp (un rfl rfl rfl rfl rfl nofun) rfl ?_
      refine stp (v := .bool true) rfl rfl (r_pickt rfl rfl rfl) ?_
      refine fin ?_
      exact n11 _ _ ⟨true, _, _, fr_self rfl, B, H⟩
    · replace H := at_itef hb15 H
      refine stp (v := .int .i64 a2) (wn rfl rfl rfl rfl (congrArg Value.bool hb15)) rfl (r_move rfl rfl) ?_
      refine stp (v := .agg #[Sl.v a0_0, Sl.v a0_1, .int .i64 a0_2]) (wn rfl rfl rfl rfl (congrArg Value.bool hb15)) rfl (r_load (v1 := .pointer (some ⟨g5, 0, none⟩)) rfl rfl (bxn (B.get 1 rfl) Try.underlying26 rfl sz26)) ?_
      refine stpc (wn rfl rfl rfl rfl (congrArg Value.bool hb15)) rfl (r_call (vs := [.agg #[Sl.v a0_0, Sl.v a0_1, .int .i64 a0_2]]) rfl rfl (ca23 _ _)) ?_
      refine at_call B H (fun y16 w B H => ?_)
      refine stp (v := .int .i64 (IntKind.i64.wrap (y16 - 1))) (wn rfl rfl rfl rfl (congrArg Value.bool hb15)) rfl (r_sub (a := y16) (b := 1) rfl rfl rfl) ?_
      refine stpc (wn rfl rfl rfl rfl (congrArg Value.bool hb15)) rfl (r_call (vs := [.int .i64 a2, .int .i64 0, .int .i64 (IntKind.i64.wrap (y16 - 1))]) rfl rfl (ca22 _ _)) ?_
      refine at_call B H (fun y17 w B H => ?_)
      refine stp (v := .bool (!y17)) (wn rfl rfl rfl rfl (congrArg Value.bool hb15)) rfl (r_not (b := y17) rfl rfl) ?_
      refine stp (v := .bool (!y17)) rfl rfl (r_pickf rfl (congrArg Value.bool hb15) rfl) ?_
      refine stp (v := .bool (!y17)) rfl rfl (r_move rfl rfl) ?_
      rcases Bool.eq_false_or_eq_true (!y17) with hb18 | hb18
      · replace H := at_itet hb18 H
        refine skp (un rfl rfl rfl rfl (congrArg Value.bool hb18) nofun) rfl ?_
        refine skp (un rfl rfl rfl rfl (congrArg Value.bool hb18) nofun) rfl ?_
        refine skp (un rfl rfl rfl rfl (congrArg Value.bool hb18) nofun) rfl ?_
        refine stp (v := .bool true) rfl rfl (r_pickt rfl (congrArg Value.bool hb18) rfl) ?_
        refine fin ?_
        exact n11 _ _ ⟨true, _, _, fr_self rfl, B, H⟩
      · replace H := at_itef hb18 H
        refine stp (v := .string a3) (wn rfl rfl rfl rfl (congrArg Value.bool hb18)) rfl (r_move rfl rfl) ?_
        refine stp (v := .int .i64 (a3.size : Int)) (wn rfl rfl rfl rfl (congrArg Value.bool hb18)) rfl (r_builtin (vs := [.string a3]) rfl rfl (fun _ => lens Try.underlying9)) ?_
        refine stp (v := .bool (decide (8 < (a3.size : Int)))) (wn rfl rfl rfl rfl (congrArg Value.bool hb18)) rfl (r_gtr (a := (a3.size : Int)) (b := 8) rfl rfl rfl) ?_
        refine stp (v := .bool (decide (8 < (a3.size : Int)))) rfl rfl (r_pickf rfl (congrArg Value.bool hb18) rfl) ?_
        refine fin ?_
        exact n11 _ _ ⟨decide (8 < (a3.size : Int)), _, _, fr_self rfl, B, H⟩
  ·
    rintro _ w ⟨j1_27, g, N, rfl, B, H⟩
    refine c_cond (b := j1_27) rfl (fun hb19 => ?_) (fun hb19 => ?_)
    · replace H := at_itet hb19 H
      refine c_seq (fun Q22 n20 o21 => ?_)
      refine c_region ?_
      refine stp (v := .agg #[Sl.v Sl.nil, Sl.v Sl.nil, .int .i64 0]) rfl rfl (r_build (qs := []) rfl rfl (site2  _)) ?_
      obtain ⟨w2, hr, B, H⟩ := B.stn H (i := 0) (T := 26) (cs' := #[Sl.v Sl.nil, Sl.v Sl.nil, .int .i64 0]) (ad := ⟨g7, 0, none⟩) rfl rfl rfl rfl sz26
      refine stp0 rfl rfl (r_store (v1 := .pointer (some ⟨g7, 0, none⟩)) (v2 := .agg #[Sl.v Sl.nil, Sl.v Sl.nil, .int .i64 0]) rfl rfl rfl hr) ?_
      replace B : Bx _ _ [⟨g7, 26, #[Sl.v Sl.nil, Sl.v Sl.nil, .int .i64 0]⟩, ⟨g5, 26, #[Sl.v a0_0, Sl.v a0_1, .int .i64 a0_2]⟩] := B
      clear hr
      refine stp (v := .bool false) rfl rfl (r_assign rfl rfl) ?_
      refine fin ?_
      refine n20 _ _ ?_
      refine c_ret (o9 _ _ _ nofun ((done (vs := [.agg #[Sl.v Sl.nil, Sl.v Sl.nil, .int .i64 0], .bool false]) (.cell rfl (bxn (B.get 0 rfl) Try.underlying26 rfl sz26) (.tmp rfl .nil)) rfl ⟨_, rfl, H.now⟩)))
    · replace H := at_itef hb19 H
      refine c_skip ?_
      refine n8 _ _ ?_
      refine c_seq (fun Q25 n23 o24 => ?_)
      refine c_region ?_
      refine stp (v := .agg #[Sl.v a0_0, Sl.v a0_1, .int .i64 a0_2]) rfl rfl (r_load (v1 := .pointer (some ⟨g5, 0, none⟩)) rfl rfl (bxn (B.get 1 rfl) Try.underlying26 rfl sz26)) ?_
      refine stpc rfl rfl (r_call (vs := [.agg #[Sl.v a0_0, Sl.v a0_1, .int .i64 a0_2]]) rfl rfl (ca24 _ _)) ?_
      refine at_call B H (fun y26 w B H => ?_)
      refine stp (v := .pointer y26) rfl rfl (r_assign rfl rfl) ?_
      refine fin ?_
      refine n23 _ _ ?_
      refine c_seqj (fun a w => ∃ (g : Nat → Value) (N : NP), a = A 65 (updl g [(8, .pointer (some ⟨g7, 0, none⟩)), (10, .pointer y26)]) ∧ Bx w N [⟨g7, 26, #[Sl.v Sl.nil, Sl.v Sl.nil, .int .i64 0]⟩, ⟨g5, 26, #[Sl.v a0_0, Sl.v a0_1, .int .i64 a0_2]⟩] ∧ Aft w N (f6_impl_PutLeaf.J2 R y26 )) (fun Q29 n27 o28 => ?_) ?_
      ·
        refine c_seq (fun Q32 n30 o31 => ?_)
        refine c_region ?_
        refine stp (v := .agg #[Sl.v a0_0, Sl.v a0_1, .int .i64 a0_2]) rfl rfl (r_load (v1 := .pointer (some ⟨g5, 0, none⟩)) rfl rfl (bxn (B.get 1 rfl) Try.underlying26 rfl sz26)) ?_
        refine stp (v := .int .i64 a1) rfl rfl (r_move rfl rfl) ?_
        refine stp (v := .int .i64 a2) rfl rfl (r_move rfl rfl) ?_
        refine stpc rfl rfl (r_call (vs := [.agg #[Sl.v a0_0, Sl.v a0_1, .int .i64 a0_2], .int .i64 a1, .int .i64 a2]) rfl rfl (ca25 _ _)) ?_
        refine at_call B H (fun y33 w B H => ?_)
        refine stp (v := .string a3) rfl rfl (r_move rfl rfl) ?_
        refine stp (v := .bool (!(y33.toList == a3.toList))) rfl rfl (r_sneq (s := y33) (t := a3) rfl rfl rfl) ?_
        refine fin ?_
        refine n30 _ _ ?_
        refine c_cond (b := !(y33.toList == a3.toList)) rfl (fun hb34 => ?_) (fun hb34 => ?_)
        · replace H := at_itet hb34 H
          refine c_open 18 (kap [17] []) (fun i b => .pointer (some ⟨b, 0, none⟩)) (fun _ => []) (fun i => []) [0, 1, 2, 3, 4, 5, 6, 7, 8, 9, 10, 11, 12, 13, 14, 15, 16, 17] [] [] _ rfl (by kernel_rfl) (by kernel_rfl) rfl B (flk (by simp) al_nil) ?_
          refine ph_q (v := .pointer y26) rfl rfl rfl (hv_ok rfl rfl) (qy_val rfl (fun w_ ρ_ hb_ => (r_move rfl rfl))) ?_
          obtain ⟨p35, hp36, H'⟩ := at_nn H
          replace H := H'; clear H'
          refine ph_q (v := .pointer (some p35)) rfl rfl rfl (hv_ok rfl rfl) (qy_val rfl (fun w_ ρ_ hb_ => (r_nn rfl (congrArg Value.pointer hp36)))) ?_
          refine ph_q (v := .pointer (some (p35.add 1))) rfl rfl rfl (hv_ok rfl rfl) (qy_val rfl (fun w_ ρ_ hb_ => (r_fieldAddr (v1 := .pointer (some p35)) rfl rfl (fld26_1 _ _)))) ?_
          obtain ⟨x37, hx38, H'⟩ := at_ldcz H
          replace H := H'; clear H'
          refine ph_q (v := Sl.v x37) rfl rfl rfl (hv_ok rfl rfl) (qy_val rfl (fun w_ ρ_ hb_ => (r_load (v1 := .pointer (some (p35.add 1))) rfl rfl (ld1 Try.underlying24 rfl (Cls.ld hx38 hb_))))) ?_
          refine ph_q (v := .int .i64 a1) rfl rfl rfl (hv_ok rfl rfl) (qy_val rfl (fun w_ ρ_ hb_ => (r_move rfl rfl))) ?_
          refine ph_q (v := .pointer y26) rfl rfl rfl (hv_ok rfl rfl) (qy_val rfl (fun w_ ρ_ hb_ => (r_move rfl rfl))) ?_
          refine ph_q (v := .pointer y26) rfl rfl rfl (hv_ok rfl rfl) (qy_val rfl (fun w_ ρ_ hb_ => (r_move rfl rfl))) ?_
          obtain ⟨p39, hp40, H'⟩ := at_nn H
          replace H := H'; clear H'
          refine ph_q (v := .pointer (some p39)) rfl rfl rfl (hv_ok rfl rfl) (qy_val rfl (fun w_ ρ_ hb_ => (r_nn rfl (congrArg Value.pointer hp40)))) ?_
          refine ph_q (v := .pointer (some (p39.add 1))) rfl rfl rfl (hv_ok rfl rfl) (qy_val rfl (fun w_ ρ_ hb_ => (r_fieldAddr (v1 := .pointer (some p39)) rfl rfl (fld26_1 _ _)))) ?_
          obtain ⟨x41, hx42, H'⟩ := at_ldcz H
          replace H := H'; clear H'
          refine ph_q (v := Sl.v x41) rfl rfl rfl (hv_ok rfl rfl) (qy_val rfl (fun w_ ρ_ hb_ => (r_load (v1 := .pointer (some (p39.add 1))) rfl rfl (ld1 Try.underlying24 rfl (Cls.ld hx42 hb_))))) ?_
          refine ph_q (v := .int .i64 a1) rfl rfl rfl (hv_ok rfl rfl) (qy_val rfl (fun w_ ρ_ hb_ => (r_move rfl rfl))) ?_
          obtain ⟨p43, p44, he45, h046, h147, hpa48, H'⟩ := at_idx' H
          replace H := H'; clear H'
          refine ph_q (v := .pointer (some p44)) rfl rfl rfl (hv_ok rfl rfl) (qy_val rfl (fun w_ ρ_ hb_ => (r_indexAddr (v1 := Sl.v x41) (v2 := .int .i64 a1) rfl rfl rfl (ix' Try.underlying24 sz3 he45 h046 h147 hpa48)))) ?_
          obtain ⟨x49, hx50, H'⟩ := at_ldcz H
          replace H := H'; clear H'
          refine ph_q (v := .int .i64 x49) rfl rfl rfl (hv_ok rfl rfl) (qy_val rfl (fun w_ ρ_ hb_ => (r_load (v1 := .pointer (some p44)) rfl rfl (ld1 Try.underlying3 rfl (Cls.ld hx50 hb_))))) ?_
          refine ph_q (v := .pointer (some ⟨g5, 2, none⟩)) rfl rfl rfl (hv_ok rfl rfl) (qy_val rfl (fun w_ ρ_ hb_ => (r_fieldAddr (v1 := .pointer (some ⟨g5, 0, none⟩)) rfl rfl (fld26_2 _ _)))) ?_
          refine ph_q (v := .int .i64 a0_2) rfl rfl rfl (hv_ok rfl rfl) (qy_val rfl (fun w_ ρ_ hb_ => (r_load (v1 := .pointer (some ⟨g5, 2, none⟩)) rfl rfl (ld1 Try.underlying3 rfl (bx1 (hb_.get 1 rfl) rfl rfl))))) ?_
          refine ph_q (v := .int .i64 a2) rfl rfl rfl (hv_ok rfl rfl) (qy_val rfl (fun w_ ρ_ hb_ => (r_move rfl rfl))) ?_
          refine ph_q (v := .string a3) rfl rfl rfl (hv_ok rfl rfl) (qy_val rfl (fun w_ ρ_ hb_ => (r_move rfl rfl))) ?_
          refine ph_e rfl rfl (fun w51 ρ55 hc hs => ?_)
          obtain ⟨hx, N52, hz53, B54⟩ := hc
          replace H := H.step hz53
          clear hz53
          refine ef_call rfl (r_call (vs := [.pointer y26, .int .i64 x49, .int .i64 a0_2, .int .i64 a2, .string a3]) rfl rfl (ca26 _ _)) (at_call B54 H (fun y56 w2 B H => ?_))
          replace H := at_chk H; obtain ⟨hx38, H'⟩ := H; replace H := H'; clear H'
          refine ⟨Cls w2 N52 [⟨g7, 26, #[Sl.v Sl.nil, Sl.v Sl.nil, .int .i64 0]⟩, ⟨g5, 26, #[Sl.v a0_0, Sl.v a0_1, .int .i64 a0_2]⟩] [] [], Cls.now hx B, (flk (by simp) al_nil), (pd_anc (re := [4, 3, 2, 1, 0]) (by kernel_rfl) (re_cons rfl rfl rfl (qy_val rfl (fun w_ ρ_ hb_ => (r_move rfl rfl))) (re_cons rfl rfl rfl (qy_val rfl (fun w_ ρ_ hb_ => (r_load (v1 := .pointer (some (p35.add 1))) rfl rfl (ld1 Try.underlying24 rfl (Cls.ld hx38 hb_))))) (re_cons rfl rfl rfl (qy_val rfl (fun w_ ρ_ hb_ => (r_fieldAddr (v1 := .pointer (some p35)) rfl rfl (fld26_1 _ _)))) (re_cons rfl rfl rfl (qy_val rfl (fun w_ ρ_ hb_ => (r_nn rfl (congrArg Value.pointer hp36)))) (re_cons rfl rfl rfl (qy_val rfl (fun w_ ρ_ hb_ => (r_move rfl rfl))) re_nil)))))), ?_⟩
          clear hx
          replace B := B.sub (List.sublist_append_right _ _)
          refine ph_nil0 (fun w N hz B => ?_)
          replace H := H.step hz
          obtain ⟨p57, p58, he, h0, h1, hpa, H'⟩ := at_idx' H
          replace H := H'; clear H'
          refine stp (v := .pointer (some p58)) rfl rfl (r_indexAddr (v1 := Sl.v x37) (v2 := .int .i64 a1) rfl rfl rfl (ix' Try.underlying24 sz3 he h0 h1 hpa)) ?_
          clear he h0 h1 hpa
          obtain ⟨hc59, hf60, B', H'⟩ := at_stc B H
          replace B := B'; clear B'
          replace H := H'; clear H'
          refine stp0 rfl rfl (r_store (v1 := .pointer (some p58)) (v2 := .int .i64 y56) rfl rfl rfl (st1 rfl sz3 hc59 hf60)) ?_
          refine fin ?_
          exact n27 _ _ ⟨_, _, fr_self rfl, B, H⟩
        · replace H := at_itef hb34 H
          refine c_skip ?_
          exact n27 _ _ ⟨_, _, fr_self rfl, B, H⟩
      ·
        rintro _ w ⟨g, N, rfl, B, H⟩
        refine c_seq (fun Q63 n61 o62 => ?_)
        refine c_seq (fun Q66 n64 o65 => ?_)
        refine c_region ?_
        refine stp (v := .pointer y26) rfl rfl (r_move rfl rfl) ?_
        obtain ⟨p67, hp68, H'⟩ := at_nn H
        replace H := H'; clear H'
        refine stp (v := .pointer (some p67)) rfl rfl (r_nn rfl (congrArg Value.pointer hp68)) ?_
        obtain ⟨x69_0, hx70, H'⟩ := at_ldc H
        replace H := H'; clear H'
        obtain ⟨x69_1, hx71, H'⟩ := at_ldc H
        replace H := H'; clear H'
        obtain ⟨x69_2, hx72, H'⟩ := at_ldc H
        replace H := H'; clear H'
        refine stp (v := .agg #[Sl.v x69_0, Sl.v x69_1, .int .i64 x69_2]) rfl rfl (r_load (v1 := .pointer (some p67)) rfl rfl (ldn (cs := [Sl.v x69_0, Sl.v x69_1, .int .i64 x69_2]) Try.underlying26 rfl sz26 (cells_start (cells_cons (m := 0) (hx70 _ (Below.refl _ _)) (cells_cons (m := 1) (hx71 _ (Below.refl _ _)) (cells_cons (m := 2) (hx72 _ (Below.refl _ _)) cells_nil)))))) ?_
        refine stpc rfl rfl (r_call (vs := [.agg #[Sl.v x69_0, Sl.v x69_1, .int .i64 x69_2]]) rfl rfl (ca8 _ _)) ?_
        refine at_call B H (fun y73 w B H => ?_)
        refine stp (v := .bool (!y73)) rfl rfl (r_not (b := y73) rfl rfl) ?_
        refine fin ?_
        refine n64 _ _ ?_
        refine c_cond (b := !y73) rfl (fun hb74 => ?_) (fun hb74 => ?_)
        · replace H := at_itet hb74 H
          refine c_seq (fun Q77 n75 o76 => ?_)
          refine c_region ?_
          refine stp (v := .agg #[Sl.v Sl.nil, Sl.v Sl.nil, .int .i64 0]) rfl rfl (r_build (qs := []) rfl rfl (site2  _)) ?_
          obtain ⟨w2, hr, B, H⟩ := B.stn H (i := 0) (T := 26) (cs' := #[Sl.v Sl.nil, Sl.v Sl.nil, .int .i64 0]) (ad := ⟨g7, 0, none⟩) rfl rfl rfl rfl sz26
          refine stp0 rfl rfl (r_store (v1 := .pointer (some ⟨g7, 0, none⟩)) (v2 := .agg #[Sl.v Sl.nil, Sl.v Sl.nil, .int .i64 0]) rfl rfl rfl hr) ?_
          replace B : Bx _ _ [⟨g7, 26, #[Sl.v Sl.nil, Sl.v Sl.nil, .int .i64 0]⟩, ⟨g5, 26, #[Sl.v a0_0, Sl.v a0_1, .int .i64 a0_2]⟩] := B
          clear hr
          refine stp (v := .bool false) rfl rfl (r_assign rfl rfl) ?_
          refine fin ?_
          refine n75 _ _ ?_
          refine c_ret (o62 _ _ _ nofun ((done (vs := [.agg #[Sl.v Sl.nil, Sl.v Sl.nil, .int .i64 0], .bool false]) (.cell rfl (bxn (B.get 0 rfl) Try.underlying26 rfl sz26) (.tmp rfl .nil)) rfl ⟨_, rfl, H.now⟩)))
        · replace H := at_itef hb74 H
          refine c_skip ?_
          refine n61 _ _ ?_
          refine c_seq (fun Q80 n78 o79 => ?_)
          refine c_region ?_
          refine stp (v := .pointer y26) rfl rfl (r_move rfl rfl) ?_
          obtain ⟨p81, hp82, H'⟩ := at_nn H
          replace H := H'; clear H'
          refine stp (v := .pointer (some p81)) rfl rfl (r_nn rfl (congrArg Value.pointer hp82)) ?_
          obtain ⟨x83_0, hx84, H'⟩ := at_ldc H
          replace H := H'; clear H'
          obtain ⟨x83_1, hx85, H'⟩ := at_ldc H
          replace H := H'; clear H'
          obtain ⟨x83_2, hx86, H'⟩ := at_ldc H
          replace H := H'; clear H'
          refine stp (v := .agg #[Sl.v x83_0, Sl.v x83_1, .int .i64 x83_2]) rfl rfl (r_load (v1 := .pointer (some p81)) rfl rfl (ldn (cs := [Sl.v x83_0, Sl.v x83_1, .int .i64 x83_2]) Try.underlying26 rfl sz26 (cells_start (cells_cons (m := 0) (hx84 _ (Below.refl _ _)) (cells_cons (m := 1) (hx85 _ (Below.refl _ _)) (cells_cons (m := 2) (hx86 _ (Below.refl _ _)) cells_nil)))))) ?_
          obtain ⟨w2, hr, B, H⟩ := B.stn H (i := 0) (T := 26) (cs' := #[Sl.v x83_0, Sl.v x83_1, .int .i64 x83_2]) (ad := ⟨g7, 0, none⟩) rfl rfl rfl rfl sz26
          refine stp0 rfl rfl (r_store (v1 := .pointer (some ⟨g7, 0, none⟩)) (v2 := .agg #[Sl.v x83_0, Sl.v x83_1, .int .i64 x83_2]) rfl rfl rfl hr) ?_
          replace B : Bx _ _ [⟨g7, 26, #[Sl.v x83_0, Sl.v x83_1, .int .i64 x83_2]⟩, ⟨g5, 26, #[Sl.v a0_0, Sl.v a0_1, .int .i64 a0_2]⟩] := B
          clear hr
          refine stp (v := .bool true) rfl rfl (r_assign rfl rfl) ?_
          refine fin ?_
          refine n78 _ _ ?_
          refine c_ret ((done (vs := [.agg #[Sl.v x83_0, Sl.v x83_1, .int .i64 x83_2], .bool true]) (.cell rfl (bxn (B.get 0 rfl) Try.underlying26 rfl sz26) (.tmp rfl .nil)) rfl ⟨_, rfl, H.now⟩))

/-! ### spec.PutLeaf/7 -/
def f7_spec_PutLeaf.J1 (R : Value → World → Prop) (a0_0 : Sl) (a0_1 : Sl) (a0_2 : Int) (a1 : Int) (a2 : Int) (a3 : ByteArray) (j1_36 : Bool) : Tm :=
  T.ite j1_36 (T.ret R (.tuple #[.agg #[Sl.v Sl.nil, Sl.v Sl.nil, .int .i64 0], .bool false])) (T.idx a0_1 a1 1 fun (p32 : Addr) => T.ldc p32 (Value.int .i64) fun (x33 : Int) => T.callq Try.prog 29 [.agg #[Sl.v a0_0, Sl.v a0_1, .int .i64 a0_2], .int .i64 x33, .int .i64 a2] Value.string fun (y35 : ByteArray) => T.ite (y35.toList == a3.toList) (T.call Try.prog 30 [.agg #[Sl.v a0_0, Sl.v a0_1, .int .i64 a0_2]] (fun (z : Sl × Sl × Int) => .agg #[Sl.v z.1, Sl.v z.2.1, .int .i64 z.2.2]) fun (y40 : Sl × Sl × Int) => T.ret R (.tuple #[.agg #[Sl.v y40.1, Sl.v y40.2.1, .int .i64 y40.2.2], .bool true])) (T.idx a0_1 a1 1 fun (p45 : Addr) => T.ldc p45 (Value.int .i64) fun (x50 : Int) => T.call Try.prog 30 [.agg #[Sl.v a0_0, Sl.v a0_1, .int .i64 a0_2]] (fun (z : Sl × Sl × Int) => .agg #[Sl.v z.1, Sl.v z.2.1, .int .i64 z.2.2]) fun (y57 : Sl × Sl × Int) => T.chk p45 (Value.int .i64) x50 (T.call Try.prog 31 [.agg #[Sl.v y57.1, Sl.v y57.2.1, .int .i64 y57.2.2], .int .i64 x50, .int .i64 a0_2, .int .i64 a2, .string a3] (fun (z : Sl × Sl × Int × Int) => .tuple #[.agg #[Sl.v z.1, Sl.v z.2.1, .int .i64 z.2.2.1], .int .i64 z.2.2.2]) fun (y63 : Sl × Sl × Int × Int) => T.idx y63.2.1 a1 1 fun (p74 : Addr) => T.stc p74 (.int .i64 y63.2.2.2) (T.call Try.prog 9 [.agg #[Sl.v y63.1, Sl.v y63.2.1, .int .i64 y63.2.2.1]] Value.bool fun (y83 : Bool) => T.ite (!y83) (T.ret R (.tuple #[.agg #[Sl.v Sl.nil, Sl.v Sl.nil, .int .i64 0], .bool false])) (T.ret R (.tuple #[.agg #[Sl.v y63.1, Sl.v y63.2.1, .int .i64 y63.2.2.1], .bool true]))))))
def f7_spec_PutLeaf.T (R : Value → World → Prop) (a0_0 : Sl) (a0_1 : Sl) (a0_2 : Int) (a1 : Int) (a2 : Int) (a3 : ByteArray) : Tm :=
  T.call Try.prog 9 [.agg #[Sl.v a0_0, Sl.v a0_1, .int .i64 a0_2]] Value.bool fun (y14 : Bool) => T.ite (!y14) (f7_spec_PutLeaf.J1 R a0_0 a0_1 a0_2 a1 a2 a3 true) (T.call Try.prog 27 [.int .i64 a1, .int .i64 0, .int .i64 (IntKind.i64.wrap ((a0_1.n : Int) - 1))] Value.bool fun (y16 : Bool) => T.ite (!y16) (f7_spec_PutLeaf.J1 R a0_0 a0_1 a0_2 a1 a2 a3 true) (T.call Try.prog 28 [.agg #[Sl.v a0_0, Sl.v a0_1, .int .i64 a0_2]] (Value.int .i64) fun (y18 : Int) => T.call Try.prog 27 [.int .i64 a2, .int .i64 0, .int .i64 (IntKind.i64.wrap (y18 - 1))] Value.bool fun (y19 : Bool) => T.ite (!y19) (f7_spec_PutLeaf.J1 R a0_0 a0_1 a0_2 a1 a2 a3 true) (f7_spec_PutLeaf.J1 R a0_0 a0_1 a0_2 a1 a2 a3 (decide (8 < (a3.size : Int))))))
set_option maxHeartbeats 4000000 in
set_option maxRecDepth 100000 in
theorem f7_spec_PutLeaf.ok (R : Value → World → Prop) (a0_0 : Sl) (a0_1 : Sl) (a0_2 : Int) (a1 : Int) (a2 : Int) (a3 : ByteArray) (w : World) (h : Aft w (fun _ => False) (f7_spec_PutLeaf.T R a0_0 a0_1 a0_2 a1 a2 a3)) :
    Calls Try.prog 7 (List.toArray [.agg #[Sl.v a0_0, Sl.v a0_1, .int .i64 a0_2], .int .i64 a1, .int .i64 a2, .string a3]) w fun e w' => ∃ v, e = .returned v ∧ R v w' := by
  refine enter 75 Try.func7 rfl rfl rfl ?_
  have B := Bx.nil w
  have H := h
  clear h
  refine c_seq (fun Q3 n1 o2 => ?_)
  refine c_region ?_
  obtain ⟨w4, N, g5, hw, hg, B, H⟩ := B.new H 26 #[Sl.v a0_0, Sl.v a0_1, .int .i64 a0_2]
  refine stp (v := .pointer (some ⟨g5, 0, none⟩)) (w' := w4) rfl rfl (r_box (v1 := .agg #[Sl.v a0_0, Sl.v a0_1, .int .i64 a0_2]) rfl rfl (box_run rfl hw hg)) ?_
  clear hw hg
  obtain ⟨w6, N, g7, hw, hg, B, H⟩ := B.new H 26 #[Sl.v Sl.nil, Sl.v Sl.nil, .int .i64 0]
  refine stp (v := .pointer (some ⟨g7, 0, none⟩)) (w' := w6) rfl rfl (r_alloc rfl (alloc_run (al26 _) hw hg)) ?_
  clear hw hg
  refine stp (v := .bool false) rfl rfl (r_assign rfl rfl) ?_
  refine fin ?_
  refine n1 _ _ ?_
  refine c_seq (fun Q10 n8 o9 => ?_)
  refine c_seqj (fun a w => ∃ (j1_36 : Bool) (g : Nat → Value) (N : NP), a = A 75 (updl g [(1, .int .i64 a1), (2, .int .i64 a2), (3, .string a3), (4, .pointer (some ⟨g5, 0, none⟩)), (8, .pointer (some ⟨g7, 0, none⟩)), (36, .bool j1_36)]) ∧ Bx w N [⟨g7, 26, #[Sl.v Sl.nil, Sl.v Sl.nil, .int .i64 0]⟩, ⟨g5, 26, #[Sl.v a0_0, Sl.v a0_1, .int .i64 a0_2]⟩] ∧ Aft w N (f7_spec_PutLeaf.J1 R a0_0 a0_1 a0_2 a1 a2 a3 j1_36)) (fun Q13 n11 o12 => ?_) ?_
  ·
    refine c_region ?_
    refine stp (v := .agg #[Sl.v a0_0, Sl.v a0_1, .int .i64 a0_2]) rfl rfl (r_load (v1 := .pointer (some ⟨g5, 0, none⟩)) rfl rfl (bxn (B.get 1 rfl) Try.underlying26 rfl sz26)) ?_
    refine stpc rfl rfl (r_call (vs := [.agg #[Sl.v a0_0, Sl.v a0_1, .int .i64 a0_2]]) rfl rfl (ca9 _ _)) ?_
    refine at_call B H (fun y14 w B H => ?_)
    refine stp (v := .bool (!y14)) rfl rfl (r_not (b := y14) rfl rfl) ?_
    refine stp (v := .bool (!y14)) rfl rfl (r_move rfl rfl) ?_
    rcases Bool.eq_false_or_eq_true (!y14) with hb15 | hb15
    · replace H := at_itet hb15 H
      refine skp (un rfl rfl rfl rfl (congrArg Value.bool hb15) nofun) rfl ?_
      refine skp (un rfl rfl rfl rfl (congrArg Value.bool hb15) nofun) rfl ?_
      refine skp (un rfl rfl rfl rfl (congrArg Value.bool hb15) nofun) rfl ?_
      refine skp (un rfl rfl rfl rfl (congrArg Value.bool hb15) nofun) rfl ?_
      refine skp (un rfl rfl rfl rfl (congrArg Value.bool hb15) nofun) rfl ?_
      refine skp (un rfl rfl rfl rfl (congrArg Value.bool hb15) nofun) rfl ?_
      refine skp (un rfl rfl rfl rfl (congrArg Value.bool hb15) nofun) rfl ?_
      refine stp (v := .bool true) rfl rfl (r_pickt rfl (congrArg Value.bool hb15) rfl) ?_
      refine stp (v := .bool true) rfl rfl (r_move rfl rfl) ?_
      refine skp (un rfl rfl rfl rfl rfl nofun) rfl ?_
      refine skp (un rfl rfl rfl rfl rfl nofun) rfl ?_
      refine skp (un rfl rfl rfl rfl rfl nofun) rfl ?_
      refine skp (un rfl rfl rfl rfl rfl nofun) rfl ?_
      refine skp (un rfl rfl rfl rfl rfl nofun) rfl ?_
      refine skp (un rfl rfl rfl rfl rfl nofun) rfl ?_
      refine stp (v := .bool true) rfl rfl (r_pickt rfl rfl rfl) ?_
      refine stp (v := .bool true) rfl rfl (r_move rfl rfl) ?_
      refine skp (un rfl rfl rfl rfl rfl nofun) rfl ?_
      refine skp (un rfl rfl rfl rfl rfl nofun) rfl ?_
      refine skp (un rfl rfl rfl rfl rfl nofun) rfl ?_
      refine stp (v := .bool true) rfl rfl (r_pickt rfl rfl rfl) ?_
      refine fin ?_
      exact n11 _ _ ⟨true, _, _, fr_self rfl, B, H⟩
    · replace H := at_itef hb15 H
      refine stp (v := .int .i64 a1) (wn rfl rfl rfl rfl (congrArg Value.bool hb15)) rfl (r_move rfl rfl) ?_
      refine stp (v := .pointer (some ⟨g5, 1, none⟩)) (wn rfl rfl rfl rfl (congrArg Value.bool hb15)) rfl (r_fieldAddr (v1 := .pointer (some ⟨g5, 0, none⟩)) rfl rfl (fld26_1 _ _)) ?_
      refine stp (v := Sl.v a0_1) (wn rfl rfl rfl rfl (congrArg Value.bool hb15)) rfl (r_load (v1 := .pointer (some ⟨g5, 1, none⟩)) rfl rfl (ld1 Try.underlying24 rfl (bx1 (B.get 1 rfl) rfl rfl))) ?_
      refine stp (v := .int .i64 (a0_1.n : Int)) (wn rfl rfl rfl rfl (congrArg Value.bool hb15)) rfl (r_builtin (vs := [Sl.v a0_1]) rfl rfl (fun _ => lenl Try.underlying24)) ?_
      refine stp (v := .int .i64 (IntKind.i64.wrap ((a0_1.n : Int) - 1))) (wn rfl rfl rfl rfl (congrArg Value.bool hb15)) rfl (r_sub (a := (a0_1.n : Int)) (b := 1) rfl rfl rfl) ?_
      refine stpc (wn rfl rfl rfl rfl (congrArg Value.bool hb15)) rfl (r_call (vs := [.int .i64 a1, .int .i64 0, .int .i64 (IntKind.i64.wrap ((a0_1.n : Int) - 1))]) rfl rfl (ca27 _ _)) ?_
      refine at_call B H (fun y16 w B H => ?_)
      refine stp (v := .bool (!y16)) (wn rfl rfl rfl rfl (congrArg Value.bool hb15)) rfl (r_not (b := y16) rfl rfl) ?_
      refine stp (v := .bool (!y16)) rfl rfl (r_pickf rfl (congrArg Value.bool hb15) rfl) ?_
      refine stp (v := .bool (!y16)) rfl rfl (r_move rfl rfl) ?_
      rcases Bool.eq_false_or_eq_true (!y16) with hb17 | hb17
      · replace H := at_itet hb17 H
        refine skp (un rfl rfl rfl rfl (congrArg Value.bool hb17) nofun) rfl ?_
        refine skp (un rfl rfl rfl rfl (congrArg Value.bool hb17) nofun) rfl ?_
        refine skp (un rfl rfl rfl rfl (congrArg Value.bool hb17) nofun) rfl ?_
        refine skp (un rfl rfl rfl rfl (congrArg Value.bool hb17) nofun) rfl ?_
        refine skp (un rfl rfl rfl rfl (congrArg Value.bool hb17) nofun) rfl ?_
        refine skp (un rfl rfl rfl rfl (congrArg Value.bool hb17) nofun) rfl ?_
        refine stp (v := .bool true) rfl rfl (r_pickt rfl (congrArg Value.bool hb17) rfl) ?_
        refine stp (v := .bool true) rfl rfl (r_move rfl rfl) ?_
        refine skp (un rfl rfl rfl rfl rfl nofun) rfl ?_
        refine skp (un rfl rfl rfl rfl rfl nofun) rfl ?_
        refine skp (un rfl rfl rfl rfl rfl nofun) rfl ?_
        refine stp (v := .bool true) rfl rfl (r_pickt rfl rfl rfl) ?_
        refine fin ?_
        exact n11 _ _ ⟨true, _, _, fr_self rfl, B, H⟩
      · replace H := at_itef hb17 H
        refine stp (v := .int .i64 a2) (wn rfl rfl rfl rfl (congrArg Value.bool hb17)) rfl (r_move rfl rfl) ?_
        refine stp (v := .agg #[Sl.v a0_0, Sl.v a0_1, .int .i64 a0_2]) (wn rfl rfl rfl rfl (congrArg Value.bool hb17)) rfl (r_load (v1 := .pointer (some ⟨g5, 0, none⟩)) rfl rfl (bxn (B.get 1 rfl) Try.underlying26 rfl sz26)) ?_
        refine stpc (wn rfl rfl rfl rfl (congrArg Value.bool hb17)) rfl (r_call (vs := [.agg #[Sl.v a0_0, Sl.v a0_1, .int .i64 a0_2]]) rfl rfl (ca28 _ _)) ?_
        refine at_call B H (fun y18 w B H => ?_)
        refine stp (v := .int .i64 (IntKind.i64.wrap (y18 - 1))) (wn rfl rfl rfl rfl (congrArg Value.bool hb17)) rfl (r_sub (a := y18) (b := 1) rfl rfl rfl) ?_
        refine stpc (wn rfl rfl rfl rfl (congrArg Value.bool hb17)) rfl (r_call (vs := [.int .i64 a2, .int .i64 0, .int .i64 (IntKind.i64.wrap (y18 - 1))]) rfl rfl (ca27 _ _)) ?_
        refine at_call B H (fun y19 w B H => ?_)
        refine stp (v := .bool (!y19)) (wn rfl rfl rfl rfl (congrArg Value.bool hb17)) rfl (r_not (b := y19) rfl rfl) ?_
        refine stp (v := .bool (!y19)) rfl rfl (r_pickf rfl (congrArg Value.bool hb17) rfl) ?_
        refine stp (v := .bool (!y19)) rfl rfl (r_move rfl rfl) ?_
        rcases Bool.eq_false_or_eq_true (!y19) with hb20 | hb20
        · replace H := at_itet hb20 H
          refine skp (un rfl rfl rfl rfl (congrArg Value.bool hb20) nofun) rfl ?_
          refine skp (un rfl rfl rfl rfl (congrArg Value.bool hb20) nofun) rfl ?_
          refine skp (un rfl rfl rfl rfl (congrArg Value.bool hb20) nofun) rfl ?_
          refine stp (v := .bool true) rfl rfl (r_pickt rfl (congrArg Value.bool hb20) rfl) ?_
          refine fin ?_
          exact n11 _ _ ⟨true, _, _, fr_self rfl, B, H⟩
        · replace H := at_itef hb20 H
          refine stp (v := .string a3) (wn rfl rfl rfl rfl (congrArg Value.bool hb20)) rfl (r_move rfl rfl) ?_
          refine stp (v := .int .i64 (a3.size : Int)) (wn rfl rfl rfl rfl (congrArg Value.bool hb20)) rfl (r_builtin (vs := [.string a3]) rfl rfl (fun _ => lens Try.underlying9)) ?_
          refine stp (v := .bool (decide (8 < (a3.size : Int)))) (wn rfl rfl rfl rfl (congrArg Value.bool hb20)) rfl (r_gtr (a := (a3.size : Int)) (b := 8) rfl rfl rfl) ?_
          refine stp (v := .bool (decide (8 < (a3.size : Int)))) rfl rfl (r_pickf rfl (congrArg Value.bool hb20) rfl) ?_
          refine fin ?_
          exact n11 _ _ ⟨decide (8 < (a3.size : Int)), _, _, fr_self rfl, B, H⟩
  ·
    rintro _ w ⟨j1_36, g, N, rfl, B, H⟩
    refine c_cond (b := j1_36) rfl (fun hb21 => ?_) (fun hb21 => ?_)
    · replace H := at_itet hb21 H
      refine c_seq (fun Q24 n22 o23 => ?_)
      refine c_region ?_
      refine stp (v := .agg #[Sl.v Sl.nil, Sl.v Sl.nil, .int .i64 0]) rfl rfl (r_build (qs := []) rfl rfl (site2  _)) ?_
      obtain ⟨w2, hr, B, H⟩ := B.stn H (i := 0) (T := 26) (cs' := #[Sl.v Sl.nil, Sl.v Sl.nil, .int .i64 0]) (ad := ⟨g7, 0, none⟩) rfl rfl rfl rfl sz26
      refine stp0 rfl rfl (r_store (v1 := .pointer (some ⟨g7, 0, none⟩)) (v2 := .agg #[Sl.v Sl.nil, Sl.v Sl.nil, .int .i64 0]) rfl rfl rfl hr) ?_
      replace B : Bx _ _ [⟨g7, 26, #[Sl.v Sl.nil, Sl.v Sl.nil, .int .i64 0]⟩, ⟨g5, 26, #[Sl.v a0_0, Sl.v a0_1, .int .i64 a0_2]⟩] := B
      clear hr
      refine stp (v := .bool false) rfl rfl (r_assign rfl rfl) ?_
      refine fin ?_
      refine n22 _ _ ?_
      refine c_ret (o9 _ _ _ nofun ((done (vs := [.agg #[Sl.v Sl.nil, Sl.v Sl.nil, .int .i64 0], .bool false]) (.cell rfl (bxn (B.get 0 rfl) Try.underlying26 rfl sz26) (.tmp rfl .nil)) rfl ⟨_, rfl, H.now⟩)))
    · replace H := at_itef hb21 H
      refine c_skip ?_
      refine n8 _ _ ?_
      refine c_seq (fun Q27 n25 o26 => ?_)
      refine c_seq (fun Q30 n28 o29 => ?_)
      refine c_quiet rfl (by kernel_rfl) ?_
      refine qstp (v := .agg #[Sl.v a0_0, Sl.v a0_1, .int .i64 a0_2]) rfl rfl (fun w_ hb_ => (r_load (v1 := .pointer (some ⟨g5, 0, none⟩)) rfl rfl (bxn ((B.quiet (Qt.of_below hb_)).get 1 rfl) Try.underlying26 rfl sz26))) ?_
      refine qstp (v := .pointer (some ⟨g5, 1, none⟩)) rfl rfl (fun w_ hb_ => (r_fieldAddr (v1 := .pointer (some ⟨g5, 0, none⟩)) rfl rfl (fld26_1 _ _))) ?_
      refine qstp (v := Sl.v a0_1) rfl rfl (fun w_ hb_ => (r_load (v1 := .pointer (some ⟨g5, 1, none⟩)) rfl rfl (ld1 Try.underlying24 rfl (bx1 ((B.quiet (Qt.of_below hb_)).get 1 rfl) rfl rfl)))) ?_
      refine qstp (v := .int .i64 a1) rfl rfl (fun w_ hb_ => (r_move rfl rfl)) ?_
      obtain ⟨p31, p32, he, h0, h1, hpa, H'⟩ := at_idx' H
      replace H := H'; clear H'
      refine qstp (v := .pointer (some p32)) rfl rfl (fun w_ hb_ => (r_indexAddr (v1 := Sl.v a0_1) (v2 := .int .i64 a1) rfl rfl rfl (ix' Try.underlying24 sz3 he h0 h1 hpa))) ?_
      clear he h0 h1 hpa
      obtain ⟨x33, hx34, H'⟩ := at_ldc H
      replace H := H'; clear H'
      refine qstp (v := .int .i64 x33) rfl rfl (fun w_ hb_ => (r_load (v1 := .pointer (some p32)) rfl rfl (ld1 Try.underlying3 rfl (hx34 _ hb_)))) ?_
      refine qstp (v := .int .i64 a2) rfl rfl (fun w_ hb_ => (r_move rfl rfl)) ?_
      obtain ⟨y35, hC, H'⟩ := at_callq H
      replace H := H'; clear H'
      refine qstpc (v := .string y35) rfl rfl (fun w_ hb_ => r_call (vs := [.agg #[Sl.v a0_0, Sl.v a0_1, .int .i64 a0_2], .int .i64 x33, .int .i64 a2]) rfl rfl (ca29 _ _)) (fun w_ hb_ => hC w_ hb_) ?_
      clear hC
      refine qstp (v := .string a3) rfl rfl (fun w_ hb_ => (r_move rfl rfl)) ?_
      refine qstp (v := .bool (y35.toList == a3.toList)) rfl rfl (fun w_ hb_ => (r_seql (s := y35) (t := a3) rfl rfl rfl)) ?_
      refine qfin (fun w hb => ?_)
      replace B := B.quiet (Qt.of_below hb)
      replace H := H.step (Nz.of_below hb)
      refine n28 _ _ ?_
      refine c_cond (b := y35.toList == a3.toList) rfl (fun hb36 => ?_) (fun hb36 => ?_)
      · replace H := at_itet hb36 H
        refine c_seq (fun Q39 n37 o38 => ?_)
        refine c_region ?_
        refine stp (v := .agg #[Sl.v a0_0, Sl.v a0_1, .int .i64 a0_2]) rfl rfl (r_load (v1 := .pointer (some ⟨g5, 0, none⟩)) rfl rfl (bxn (B.get 1 rfl) Try.underlying26 rfl sz26)) ?_
        refine stpc rfl rfl (r_call (vs := [.agg #[Sl.v a0_0, Sl.v a0_1, .int .i64 a0_2]]) rfl rfl (ca30 _ _)) ?_
        refine at_call B H (fun y40 w B H => ?_)
        obtain ⟨w2, hr, B, H⟩ := B.stn H (i := 0) (T := 26) (cs' := #[Sl.v y40.1, Sl.v y40.2.1, .int .i64 y40.2.2]) (ad := ⟨g7, 0, none⟩) rfl rfl rfl rfl sz26
        refine stp0 rfl rfl (r_store (v1 := .pointer (some ⟨g7, 0, none⟩)) (v2 := .agg #[Sl.v y40.1, Sl.v y40.2.1, .int .i64 y40.2.2]) rfl rfl rfl hr) ?_
        replace B : Bx _ _ [⟨g7, 26, #[Sl.v y40.1, Sl.v y40.2.1, .int .i64 y40.2.2]⟩, ⟨g5, 26, #[Sl.v a0_0, Sl.v a0_1, .int .i64 a0_2]⟩] := B
        clear hr
        refine stp (v := .bool true) rfl rfl (r_assign rfl rfl) ?_
        refine fin ?_
        refine n37 _ _ ?_
        refine c_ret (o26 _ _ _ nofun ((done (vs := [.agg #[Sl.v y40.1, Sl.v y40.2.1, .int .i64 y40.2.2], .bool true]) (.cell rfl (bxn (B.get 0 rfl) Try.underlying26 rfl sz26) (.tmp rfl .nil)) rfl ⟨_, rfl, H.now⟩)))
      · replace H := at_itef hb36 H
        refine c_skip ?_
        refine n25 _ _ ?_
        refine c_seq (fun Q43 n41 o42 => ?_)
        refine c_open 17 (kap [1, 11, 16] [15]) (fun i b => .pointer (some ⟨b, 0, none⟩)) (fun _ => []) (fun i => bif Nat.beq i 16 then [(15, 10)] else []) [0, 2, 3, 4, 5, 6, 7, 8, 9, 10, 1, 11, 12, 13, 14, 16] [(15, 10)] [(15, 26, #[Sl.v Sl.nil, Sl.v Sl.nil, .int .i64 0])] _ rfl (by kernel_rfl) (by kernel_rfl) rfl B (flk (by simp) (al_cons rfl (.inr rfl) (fun _ g hg => (r_alloc rfl (alloc_run (al26 _) rfl rfl))) al_nil)) ?_
        refine ph_q (v := .agg #[Sl.v a0_0, Sl.v a0_1, .int .i64 a0_2]) rfl rfl rfl (hv_ok rfl rfl) (qy_val rfl (fun w_ ρ_ hb_ => (r_load (v1 := .pointer (some ⟨g5, 0, none⟩)) rfl rfl (bxn (hb_.get 1 rfl) Try.underlying26 rfl sz26)))) ?_
        refine ph_q (v := .pointer (some ⟨g5, 1, none⟩)) rfl rfl rfl (hv_ok rfl rfl) (qy_val rfl (fun w_ ρ_ hb_ => (r_fieldAddr (v1 := .pointer (some ⟨g5, 0, none⟩)) rfl rfl (fld26_1 _ _)))) ?_
        refine ph_q (v := Sl.v a0_1) rfl rfl rfl (hv_ok rfl rfl) (qy_val rfl (fun w_ ρ_ hb_ => (r_load (v1 := .pointer (some ⟨g5, 1, none⟩)) rfl rfl (ld1 Try.underlying24 rfl (bx1 (hb_.get 1 rfl) rfl rfl))))) ?_
        refine ph_q (v := .int .i64 a1) rfl rfl rfl (hv_ok rfl rfl) (qy_val rfl (fun w_ ρ_ hb_ => (r_move rfl rfl))) ?_
        obtain ⟨p44, p45, he46, h047, h148, hpa49, H'⟩ := at_idx' H
        replace H := H'; clear H'
        refine ph_q (v := .pointer (some p45)) rfl rfl rfl (hv_ok rfl rfl) (qy_val rfl (fun w_ ρ_ hb_ => (r_indexAddr (v1 := Sl.v a0_1) (v2 := .int .i64 a1) rfl rfl rfl (ix' Try.underlying24 sz3 he46 h047 h148 hpa49)))) ?_
        obtain ⟨x50, hx51, H'⟩ := at_ldcz H
        replace H := H'; clear H'
        refine ph_q (v := .int .i64 x50) rfl rfl rfl (hv_ok rfl rfl) (qy_val rfl (fun w_ ρ_ hb_ => (r_load (v1 := .pointer (some p45)) rfl rfl (ld1 Try.underlying3 rfl (Cls.ld hx51 hb_))))) ?_
        refine ph_q (v := .pointer (some ⟨g5, 2, none⟩)) rfl rfl rfl (hv_ok rfl rfl) (qy_val rfl (fun w_ ρ_ hb_ => (r_fieldAddr (v1 := .pointer (some ⟨g5, 0, none⟩)) rfl rfl (fld26_2 _ _)))) ?_
        refine ph_q (v := .int .i64 a0_2) rfl rfl rfl (hv_ok rfl rfl) (qy_val rfl (fun w_ ρ_ hb_ => (r_load (v1 := .pointer (some ⟨g5, 2, none⟩)) rfl rfl (ld1 Try.underlying3 rfl (bx1 (hb_.get 1 rfl) rfl rfl))))) ?_
        refine ph_q (v := .int .i64 a2) rfl rfl rfl (hv_ok rfl rfl) (qy_val rfl (fun w_ ρ_ hb_ => (r_move rfl rfl))) ?_
        refine ph_q (v := .string a3) rfl rfl rfl (hv_ok rfl rfl) (qy_val rfl (fun w_ ρ_ hb_ => (r_move rfl rfl))) ?_
        refine ph_e rfl rfl (fun w52 ρ56 hc hs => ?_)
        obtain ⟨hx, N53, hz54, B55⟩ := hc
        replace H := H.step hz54
        clear hz54
        refine ef_call rfl (r_call (vs := [.agg #[Sl.v a0_0, Sl.v a0_1, .int .i64 a0_2]]) rfl rfl (ca30 _ _)) (at_call B55 H (fun y57 w2 B H => ?_))
        replace H := at_chk H; obtain ⟨hx51, H'⟩ := H; replace H := H'; clear H'
        refine ⟨Cls w2 N53 [⟨g7, 26, #[Sl.v Sl.nil, Sl.v Sl.nil, .int .i64 0]⟩, ⟨g5, 26, #[Sl.v a0_0, Sl.v a0_1, .int .i64 a0_2]⟩] [(15, 26, #[Sl.v Sl.nil, Sl.v Sl.nil, .int .i64 0])] [], Cls.now hx B, (flk (by simp) (al_cons rfl (.inr rfl) (fun _ g hg => (r_alloc rfl (alloc_run (al26 _) rfl rfl))) al_nil)), (pd_anc (re := [10, 9, 8, 7, 6, 5, 4, 3, 2]) (by kernel_rfl) (re_cons rfl rfl rfl (qy_val rfl (fun w_ ρ_ hb_ => (r_move rfl rfl))) (re_cons rfl rfl rfl (qy_val rfl (fun w_ ρ_ hb_ => (r_move rfl rfl))) (re_cons rfl rfl rfl (qy_val rfl (fun w_ ρ_ hb_ => (r_load (v1 := .pointer (some ⟨g5, 2, none⟩)) rfl rfl (ld1 Try.underlying3 rfl (bx1 (hb_.get 1 rfl) rfl rfl))))) (re_cons rfl rfl rfl (qy_val rfl (fun w_ ρ_ hb_ => (r_fieldAddr (v1 := .pointer (some ⟨g5, 0, none⟩)) rfl rfl (fld26_2 _ _)))) (re_cons rfl rfl rfl (qy_val rfl (fun w_ ρ_ hb_ => (r_load (v1 := .pointer (some p45)) rfl rfl (ld1 Try.underlying3 rfl (Cls.ld hx51 hb_))))) (re_cons rfl rfl rfl (qy_val rfl (fun w_ ρ_ hb_ => (r_indexAddr (v1 := Sl.v a0_1) (v2 := .int .i64 a1) rfl rfl rfl (ix' Try.underlying24 sz3 he46 h047 h148 hpa49)))) (re_cons rfl rfl rfl (qy_val rfl (fun w_ ρ_ hb_ => (r_move rfl rfl))) (re_cons rfl rfl rfl (qy_val rfl (fun w_ ρ_ hb_ => (r_load (v1 := .pointer (some ⟨g5, 1, none⟩)) rfl rfl (ld1 Try.underlying24 rfl (bx1 (hb_.get 1 rfl) rfl rfl))))) (re_cons rfl rfl rfl (qy_val rfl (fun w_ ρ_ hb_ => (r_fieldAddr (v1 := .pointer (some ⟨g5, 0, none⟩)) rfl rfl (fld26_1 _ _)))) re_nil)))))))))), ?_⟩
        clear hx
        replace B := B.sub (List.sublist_append_right _ _)
        refine ph_e rfl rfl (fun w58 ρ62 hc hs => ?_)
        obtain ⟨hx, N59, hz60, B61⟩ := hc
        replace H := H.step hz60
        clear hz60
        refine ef_call rfl (r_call (vs := [.agg #[Sl.v y57.1, Sl.v y57.2.1, .int .i64 y57.2.2], .int .i64 x50, .int .i64 a0_2, .int .i64 a2, .string a3]) rfl rfl (ca31 _ _)) (at_call B61 H (fun y63 w2 B H => ?_))
        refine ⟨Cls w2 N59 [⟨g7, 26, #[Sl.v Sl.nil, Sl.v Sl.nil, .int .i64 0]⟩, ⟨g5, 26, #[Sl.v a0_0, Sl.v a0_1, .int .i64 a0_2]⟩] [(15, 26, #[Sl.v Sl.nil, Sl.v Sl.nil, .int .i64 0])] [], Cls.now hx B, (flk (by simp) (al_cons rfl (.inr rfl) (fun _ g hg => (r_alloc rfl (alloc_run (al26 _) rfl rfl))) al_nil)), (pd_anc (re := []) (by kernel_rfl) re_nil), ?_⟩
        clear hx
        replace B := B.sub (List.sublist_append_right _ _)
        refine ph_q (v := .tuple #[.agg #[Sl.v y63.1, Sl.v y63.2.1, .int .i64 y63.2.2.1], .int .i64 y63.2.2.2]) rfl rfl rfl (hv_ok rfl rfl) (qy_val rfl (fun w_ ρ_ hb_ => (r_move rfl rfl))) ?_
        refine ph_q (v := .agg #[Sl.v y63.1, Sl.v y63.2.1, .int .i64 y63.2.2.1]) rfl rfl rfl (hv_ok rfl rfl) (qy_val rfl (fun w_ ρ_ hb_ => (r_extract (v1 := .tuple #[.agg #[Sl.v y63.1, Sl.v y63.2.1, .int .i64 y63.2.2.1], .int .i64 y63.2.2.2]) rfl rfl rfl))) ?_
        refine ph_q (v := .int .i64 y63.2.2.2) rfl rfl rfl (hv_ok rfl rfl) (qy_val rfl (fun w_ ρ_ hb_ => (r_extract (v1 := .tuple #[.agg #[Sl.v y63.1, Sl.v y63.2.1, .int .i64 y63.2.2.1], .int .i64 y63.2.2.2]) rfl rfl rfl))) ?_
        refine ph_e rfl rfl (fun w64 ρ68 hc hs => ?_)
        obtain ⟨hx, N65, hz66, B67⟩ := hc
        replace H := H.step hz66
        clear hz66
        obtain ⟨g69, hg15⟩ := Option.isSome_iff_exists.1 (hs (15, 10) (by simp))
        replace B67 : Bx w64 N65 (flb [] ρ68 ++ [⟨g7, 26, #[Sl.v Sl.nil, Sl.v Sl.nil, .int .i64 0]⟩, ⟨g5, 26, #[Sl.v a0_0, Sl.v a0_1, .int .i64 a0_2]⟩, ⟨g69, 26, #[Sl.v Sl.nil, Sl.v Sl.nil, .int .i64 0]⟩]) := (show Bx w64 N65 (⟨g69, 26, #[Sl.v Sl.nil, Sl.v Sl.nil, .int .i64 0]⟩ :: (flb [] ρ68 ++ [⟨g7, 26, #[Sl.v Sl.nil, Sl.v Sl.nil, .int .i64 0]⟩, ⟨g5, 26, #[Sl.v a0_0, Sl.v a0_1, .int .i64 a0_2]⟩])) by simpa only [flb, List.filterMap_cons, hg15, Option.map_some, List.cons_append] using B67).perm (by rw [show ([⟨g7, 26, #[Sl.v Sl.nil, Sl.v Sl.nil, .int .i64 0]⟩, ⟨g5, 26, #[Sl.v a0_0, Sl.v a0_1, .int .i64 a0_2]⟩, ⟨g69, 26, #[Sl.v Sl.nil, Sl.v Sl.nil, .int .i64 0]⟩] : List Bk) = ([⟨g7, 26, #[Sl.v Sl.nil, Sl.v Sl.nil, .int .i64 0]⟩, ⟨g5, 26, #[Sl.v a0_0, Sl.v a0_1, .int .i64 a0_2]⟩] : List Bk) ++ ([⟨g69, 26, #[Sl.v Sl.nil, Sl.v Sl.nil, .int .i64 0]⟩] : List Bk) from rfl, ← List.append_assoc]; exact (List.perm_append_singleton _ _))
        replace hx := hx_cons hg15 hx
        refine EF_frame (f' := updl _ [(10, .pointer (some ⟨g69, 0, none⟩))]) (wfl_cons hg15 rfl wfl_nil) ?_
        replace B67 : Bx _ _ ([⟨g7, 26, #[Sl.v Sl.nil, Sl.v Sl.nil, .int .i64 0]⟩, ⟨g5, 26, #[Sl.v a0_0, Sl.v a0_1, .int .i64 a0_2]⟩, ⟨g69, 26, #[Sl.v Sl.nil, Sl.v Sl.nil, .int .i64 0]⟩] ++ flb [] ρ68) := B67.perm List.perm_append_comm
        obtain ⟨w2, hr, B, H⟩ := B67.stn H (i := 2) (T := 26) (cs' := #[Sl.v y63.1, Sl.v y63.2.1, .int .i64 y63.2.2.1]) (ad := ⟨g69, 0, none⟩) rfl rfl rfl rfl sz26
        refine ef_skp (w' := w2) rfl (r_store (v1 := .pointer (some ⟨g69, 0, none⟩)) (v2 := .agg #[Sl.v y63.1, Sl.v y63.2.1, .int .i64 y63.2.2.1]) rfl rfl rfl hr) ?_
        clear hr
        replace B : Bx _ _ ([⟨g7, 26, #[Sl.v Sl.nil, Sl.v Sl.nil, .int .i64 0]⟩, ⟨g5, 26, #[Sl.v a0_0, Sl.v a0_1, .int .i64 a0_2]⟩, ⟨g69, 26, #[Sl.v y63.1, Sl.v y63.2.1, .int .i64 y63.2.2.1]⟩] ++ flb [] ρ68) := B
        replace B := B.perm List.perm_append_comm
        refine ⟨Cls w2 N65 [⟨g7, 26, #[Sl.v Sl.nil, Sl.v Sl.nil, .int .i64 0]⟩, ⟨g5, 26, #[Sl.v a0_0, Sl.v a0_1, .int .i64 a0_2]⟩, ⟨g69, 26, #[Sl.v y63.1, Sl.v y63.2.1, .int .i64 y63.2.2.1]⟩] [] [(15, g69)], Cls.now hx B, (flk (by simp) (al_cons rfl (.inl rfl) (fun _ g hg => (r_alloc rfl (alloc_run (al26 _) rfl rfl))) al_nil)), (pd_anc (re := [14]) (by kernel_rfl) (re_cons rfl rfl rfl (qy_val rfl (fun w_ ρ_ hb_ => (r_extract (v1 := .tuple #[.agg #[Sl.v y63.1, Sl.v y63.2.1, .int .i64 y63.2.2.1], .int .i64 y63.2.2.2]) rfl rfl rfl))) re_nil)), ?_⟩
        clear hx
        replace B := B.sub (List.sublist_append_right _ _)
        refine ph_nil (fun w ρ N hz hx B hs => ?_)
        replace H := H.step hz
        have hg15 := hx (15, g69) (by simp)
        replace hg15 : ρ 15 = some g69 := hg15
        replace B : Bx w N [⟨g7, 26, #[Sl.v Sl.nil, Sl.v Sl.nil, .int .i64 0]⟩, ⟨g5, 26, #[Sl.v a0_0, Sl.v a0_1, .int .i64 a0_2]⟩, ⟨g69, 26, #[Sl.v y63.1, Sl.v y63.2.1, .int .i64 y63.2.2.1]⟩] := by simpa only [flb, List.filterMap_cons, List.filterMap_nil, hg15, Option.map_some, List.cons_append, List.nil_append] using B
        refine WL_frame (f' := updl _ [(10, .pointer (some ⟨g69, 0, none⟩))]) (wfl_cons hg15 rfl wfl_nil) ?_
        replace B : Bx w N [⟨g69, 26, #[Sl.v y63.1, Sl.v y63.2.1, .int .i64 y63.2.2.1]⟩, ⟨g7, 26, #[Sl.v Sl.nil, Sl.v Sl.nil, .int .i64 0]⟩, ⟨g5, 26, #[Sl.v a0_0, Sl.v a0_1, .int .i64 a0_2]⟩] := (show Bx w N (([⟨g7, 26, #[Sl.v Sl.nil, Sl.v Sl.nil, .int .i64 0]⟩, ⟨g5, 26, #[Sl.v a0_0, Sl.v a0_1, .int .i64 a0_2]⟩] : List Bk) ++ ([⟨g69, 26, #[Sl.v y63.1, Sl.v y63.2.1, .int .i64 y63.2.2.1]⟩] : List Bk)) from B).perm (List.perm_append_comm (l₁ := ([⟨g69, 26, #[Sl.v y63.1, Sl.v y63.2.1, .int .i64 y63.2.2.1]⟩] : List Bk)))
        refine stp (v := .int .i64 y63.2.2.2) rfl rfl (r_assign rfl rfl) ?_
        refine fin ?_
        refine n41 _ _ ?_
        refine c_seq (fun Q72 n70 o71 => ?_)
        refine c_region ?_
        refine stp (v := .pointer (some ⟨g69, 1, none⟩)) rfl rfl (r_fieldAddr (v1 := .pointer (some ⟨g69, 0, none⟩)) rfl rfl (fld26_1 _ _)) ?_
        refine stp (v := Sl.v y63.2.1) rfl rfl (r_load (v1 := .pointer (some ⟨g69, 1, none⟩)) rfl rfl (ld1 Try.underlying24 rfl (bx1 (B.get 0 rfl) rfl rfl))) ?_
        refine stp (v := .int .i64 a1) rfl rfl (r_move rfl rfl) ?_
        refine stp (v := .int .i64 y63.2.2.2) rfl rfl (r_move rfl rfl) ?_
        obtain ⟨p73, p74, he, h0, h1, hpa, H'⟩ := at_idx' H
        replace H := H'; clear H'
        refine stp (v := .pointer (some p74)) rfl rfl (r_indexAddr (v1 := Sl.v y63.2.1) (v2 := .int .i64 a1) rfl rfl rfl (ix' Try.underlying24 sz3 he h0 h1 hpa)) ?_
        clear he h0 h1 hpa
        obtain ⟨hc75, hf76, B', H'⟩ := at_stc B H
        replace B := B'; clear B'
        replace H := H'; clear H'
        refine stp0 rfl rfl (r_store (v1 := .pointer (some p74)) (v2 := .int .i64 y63.2.2.2) rfl rfl rfl (st1 rfl sz3 hc75 hf76)) ?_
        refine fin ?_
        refine n70 _ _ ?_
        refine c_seq (fun Q79 n77 o78 => ?_)
        refine c_seq (fun Q82 n80 o81 => ?_)
        refine c_region ?_
        refine stp (v := .agg #[Sl.v y63.1, Sl.v y63.2.1, .int .i64 y63.2.2.1]) rfl rfl (r_load (v1 := .pointer (some ⟨g69, 0, none⟩)) rfl rfl (bxn (B.get 0 rfl) Try.underlying26 rfl sz26)) ?_
        refine stpc rfl rfl (r_call (vs := [.agg #[Sl.v y63.1, Sl.v y63.2.1, .int .i64 y63.2.2.1]]) rfl rfl (ca9 _ _)) ?_
        refine at_call B H (fun y83 w B H => ?_)
        refine stp (v := .bool (!y83)) rfl rfl (r_not (b := y83) rfl rfl) ?_
        refine fin ?_
        refine n80 _ _ ?_
        refine c_cond (b := !y83) rfl (fun hb84 => ?_) (fun hb84 => ?_)
        · replace H := at_itet hb84 H
          refine c_seq (fun Q87 n85 o86 => ?_)
          refine c_region ?_
          refine stp (v := .agg #[Sl.v Sl.nil, Sl.v Sl.nil, .int .i64 0]) rfl rfl (r_build (qs := []) rfl rfl (site2  _)) ?_
          obtain ⟨w2, hr, B, H⟩ := B.stn H (i := 1) (T := 26) (cs' := #[Sl.v Sl.nil, Sl.v Sl.nil, .int .i64 0]) (ad := ⟨g7, 0, none⟩) rfl rfl rfl rfl sz26
          refine stp0 rfl rfl (r_store (v1 := .pointer (some ⟨g7, 0, none⟩)) (v2 := .agg #[Sl.v Sl.nil, Sl.v Sl.nil, .int .i64 0]) rfl rfl rfl hr) ?_
          replace B : Bx _ _ [⟨g69, 26, #[Sl.v y63.1, Sl.v y63.2.1, .int .i64 y63.2.2.1]⟩, ⟨g7, 26, #[Sl.v Sl.nil, Sl.v Sl.nil, .int .i64 0]⟩, ⟨g5, 26, #[Sl.v a0_0, Sl.v a0_1, .int .i64 a0_2]⟩] := B
          clear hr
          refine stp (v := .bool false) rfl rfl (r_assign rfl rfl) ?_
          refine fin ?_
          refine n85 _ _ ?_
          refine c_ret (o78 _ _ _ nofun ((done (vs := [.agg #[Sl.v Sl.nil, Sl.v Sl.nil, .int .i64 0], .bool false]) (.cell rfl (bxn (B.get 1 rfl) Try.underlying26 rfl sz26) (.tmp rfl .nil)) rfl ⟨_, rfl, H.now⟩)))
        · replace H := at_itef hb84 H
          refine c_skip ?_
          refine n77 _ _ ?_
          refine c_seq (fun Q90 n88 o89 => ?_)
          refine c_region ?_
          refine stp (v := .agg #[Sl.v y63.1, Sl.v y63.2.1, .int .i64 y63.2.2.1]) rfl rfl (r_load (v1 := .pointer (some ⟨g69, 0, none⟩)) rfl rfl (bxn (B.get 0 rfl) Try.underlying26 rfl sz26)) ?_
          obtain ⟨w2, hr, B, H⟩ := B.stn H (i := 1) (T := 26) (cs' := #[Sl.v y63.1, Sl.v y63.2.1, .int .i64 y63.2.2.1]) (ad := ⟨g7, 0, none⟩) rfl rfl rfl rfl sz26
          refine stp0 rfl rfl (r_store (v1 := .pointer (some ⟨g7, 0, none⟩)) (v2 := .agg #[Sl.v y63.1, Sl.v y63.2.1, .int .i64 y63.2.2.1]) rfl rfl rfl hr) ?_
          replace B : Bx _ _ [⟨g69, 26, #[Sl.v y63.1, Sl.v y63.2.1, .int .i64 y63.2.2.1]⟩, ⟨g7, 26, #[Sl.v y63.1, Sl.v y63.2.1, .int .i64 y63.2.2.1]⟩, ⟨g5, 26, #[Sl.v a0_0, Sl.v a0_1, .int .i64 a0_2]⟩] := B
          clear hr
          refine stp (v := .bool true) rfl rfl (r_assign rfl rfl) ?_
          refine fin ?_
          refine n88 _ _ ?_
          refine c_ret ((done (vs := [.agg #[Sl.v y63.1, Sl.v y63.2.1, .int .i64 y63.2.2.1], .bool true]) (.cell rfl (bxn (B.get 1 rfl) Try.underlying26 rfl sz26) (.tmp rfl .nil)) rfl ⟨_, rfl, H.now⟩))

/-! ### impl.GoodCow/8 -/
def f8_impl_GoodCow.L4 (R : Value → World → Prop) (g5 : Nat) (g41 : Nat) (g39 : Nat) (g50 : Nat) (next116 : (Int) → Tm) (s3_9 : Int) (x146 : Sl) (s4_71 : Int) (next155 : (Int) → Tm) : Tm :=
  T.ite (decide (s4_71 < (x146.n : Int))) (T.idx x146 s4_71 1 fun (p174 : Addr) => T.ldc p174 (Value.int .i64) fun (x175 : Int) => T.ldc (⟨g39, 0, none⟩ : Addr) Sl.v fun (x180 : Sl) => T.ldc (⟨g50, 0, none⟩ : Addr) Sl.v fun (x182 : Sl) => T.idx x182 s3_9 1 fun (p185 : Addr) => T.ldc p185 (Value.int .i64) fun (x190 : Int) => T.idx x180 x190 1 fun (p193 : Addr) => T.ldc p193 (Value.int .i64) fun (x198 : Int) => T.call Try.prog 32 [.int .i64 x175, .int .i64 (IntKind.i64.wrap (x198 - 1)), .pointer (some (⟨g5, 0, none⟩ : Addr)), .pointer (some (⟨g41, 0, none⟩ : Addr)), .pointer (some (⟨g39, 0, none⟩ : Addr)), .pointer (some (⟨g50, 0, none⟩ : Addr))] Value.bool fun (y200 : Bool) => T.ite (!y200) (T.ret R (.bool false)) (next155 (IntKind.i64.wrap (s4_71 + 1)))) (next116 (IntKind.i64.wrap (s3_9 + 1)))
def f8_impl_GoodCow.J6 (R : Value → World → Prop) (next220 : (Int) → Tm) (s5_91 : Int) (j6_118 : Bool) : Tm :=
  T.ite j6_118 (T.ret R (.bool false)) (next220 (IntKind.i64.wrap (s5_91 + 1)))
def f8_impl_GoodCow.L5 (R : Value → World → Prop) (g41 : Nat) (x211 : Sl) (s5_91 : Int) (next220 : (Int) → Tm) : Tm :=
  T.ite (decide (s5_91 < (x211.n : Int))) (T.idx x211 s5_91 3 fun (p239 : Addr) => T.ldc (p239.add 0) (Value.int .i64) fun (x240_0 : Int) => T.ldc (p239.add 1) Value.string fun (x240_1 : ByteArray) => T.ldc (p239.add 2) Sl.v fun (x240_2 : Sl) => T.ldc (⟨g41, 0, none⟩ : Addr) Sl.v fun (x249 : Sl) => T.idx x249 s5_91 1 fun (p252 : Addr) => T.ldc p252 (Value.int .i64) fun (x253 : Int) => T.ite (x240_0 != x253) (f8_impl_GoodCow.J6 R next220 s5_91 true) (T.ite (x240_0 == 0) (T.ite (!(x240_1.toList == (⟨#[]⟩ : ByteArray).toList)) (f8_impl_GoodCow.J6 R next220 s5_91 true) (f8_impl_GoodCow.J6 R next220 s5_91 (decide (0 < (x240_2.n : Int))))) (f8_impl_GoodCow.J6 R next220 s5_91 false))) (T.ret R (.bool true))
def f8_impl_GoodCow.L3 (R : Value → World → Prop) (g5 : Nat) (g41 : Nat) (g39 : Nat) (g50 : Nat) (s3_9 : Int) (next116 : (Int) → Tm) : Tm :=
  T.ldc (⟨g50, 0, none⟩ : Addr) Sl.v fun (x123 : Sl) => T.ite (decide (s3_9 < (x123.n : Int))) (T.ldc ((⟨g5, 0, none⟩ : Addr).add 0) Sl.v fun (x136 : Sl) => T.ldc (⟨g50, 0, none⟩ : Addr) Sl.v fun (x138 : Sl) => T.idx x138 s3_9 1 fun (p141 : Addr) => T.ldc p141 (Value.int .i64) fun (x142 : Int) => T.idx x136 x142 3 fun (p145 : Addr) => T.ldc (p145.add 2) Sl.v fun (x146 : Sl) => T.loop (fun (s : Int) next => f8_impl_GoodCow.L4 R g5 g41 g39 g50 next116 s3_9 x146 s (fun (z0 : Int) => next z0)) 0) (T.ldc ((⟨g5, 0, none⟩ : Addr).add 0) Sl.v fun (x211 : Sl) => T.loop (fun (s : Int) next => f8_impl_GoodCow.L5 R g41 x211 s (fun (z0 : Int) => next z0)) 0)
def f8_impl_GoodCow.L2 (R : Value → World → Prop) (g5 : Nat) (g41 : Nat) (g39 : Nat) (g50 : Nat) (x62 : Sl) (s2_44 : Int) (next71 : (Int) → Tm) : Tm :=
  T.ite (decide (s2_44 < (x62.n : Int))) (T.idx x62 s2_44 1 fun (p90 : Addr) => T.ldc p90 (Value.int .i64) fun (x91 : Int) => T.ldc ((⟨g5, 0, none⟩ : Addr).add 2) (Value.int .i64) fun (x96 : Int) => T.call Try.prog 32 [.int .i64 x91, .int .i64 x96, .pointer (some (⟨g5, 0, none⟩ : Addr)), .pointer (some (⟨g41, 0, none⟩ : Addr)), .pointer (some (⟨g39, 0, none⟩ : Addr)), .pointer (some (⟨g50, 0, none⟩ : Addr))] Value.bool fun (y98 : Bool) => T.ite (!y98) (T.ret R (.bool false)) (next71 (IntKind.i64.wrap (s2_44 + 1)))) (T.loop (fun (s : Int) next => f8_impl_GoodCow.L3 R g5 g41 g39 g50 s (fun (z0 : Int) => next z0)) 0)
def f8_impl_GoodCow.J1 (R : Value → World → Prop) (g5 : Nat) (j1_30 : Bool) : Tm :=
  T.ite j1_30 (T.ret R (.bool false)) (T.ldc ((⟨g5, 0, none⟩ : Addr).add 0) Sl.v fun (x29 : Sl) => T.ldc ((⟨g5, 0, none⟩ : Addr).add 0) Sl.v fun (x31 : Sl) => T.ass (0 ≤ (x29.n : Int) ∧ 8 * (x29.n : Int) ≤ 281474976710656) (T.ass (0 ≤ (x31.n : Int) ∧ 8 * (x31.n : Int) ≤ 281474976710656) (T.new (.cells (madeCells (Value.cells (.int .i64 0)) ((x29.n : Int).toNat * 1)) 3) fun (g38 : Nat) => T.chk ((⟨g5, 0, none⟩ : Addr).add 0) Sl.v x31 (T.new (.cells (madeCells (Value.cells (.int .i64 0)) ((x31.n : Int).toNat * 1)) 3) fun (g40 : Nat) => T.new (.cells #[Sl.v Sl.nil] 24) fun (g41 : Nat) => T.new (.cells #[Sl.v (⟨some ⟨g38, 0, none⟩, (x29.n : Int).toNat, (x29.n : Int).toNat⟩ : Sl)] 24) fun (g39 : Nat) => T.stc (⟨g41, 0, none⟩ : Addr) (Sl.v (⟨some ⟨g40, 0, none⟩, (x31.n : Int).toNat, (x31.n : Int).toNat⟩ : Sl)) (T.new (.cells #[] 3) fun (g48 : Nat) => T.new (.cells #[Sl.v Sl.nil] 24) fun (g50 : Nat) => T.stc (⟨g50, 0, none⟩ : Addr) (Sl.v (⟨some ⟨g48, 0, none⟩, 0, 0⟩ : Sl)) (T.ldc ((⟨g5, 0, none⟩ : Addr).add 1) Sl.v fun (x62 : Sl) => T.loop (fun (s : Int) next => f8_impl_GoodCow.L2 R g5 g41 g39 g50 x62 s (fun (z0 : Int) => next z0)) 0))))))
def f8_impl_GoodCow.T (R : Value → World → Prop) (a0_0 : Sl) (a0_1 : Sl) (a0_2 : Int) : Tm :=
  T.new (.cells #[Sl.v a0_0, Sl.v a0_1, .int .i64 a0_2] 26) fun (g5 : Nat) => T.ldc ((⟨g5, 0, none⟩ : Addr).add 2) (Value.int .i64) fun (x12 : Int) => T.call Try.prog 22 [.int .i64 x12, .int .i64 1, .int .i64 3] Value.bool fun (y14 : Bool) => T.ite (!y14) (f8_impl_GoodCow.J1 R g5 true) (T.ldc ((⟨g5, 0, none⟩ : Addr).add 0) Sl.v fun (x16 : Sl) => T.ite (decide (80 < (x16.n : Int))) (f8_impl_GoodCow.J1 R g5 true) (T.ldc ((⟨g5, 0, none⟩ : Addr).add 1) Sl.v fun (x19 : Sl) => T.call Try.prog 22 [.int .i64 (x19.n : Int), .int .i64 1, .int .i64 8] Value.bool fun (y21 : Bool) => f8_impl_GoodCow.J1 R g5 (!y21)))
set_option maxHeartbeats 4000000 in
set_option maxRecDepth 100000 in
theorem f8_impl_GoodCow.ok (R : Value → World → Prop) (a0_0 : Sl) (a0_1 : Sl) (a0_2 : Int) (w : World) (h : Aft w (fun _ => False) (f8_impl_GoodCow.T R a0_0 a0_1 a0_2)) :
    Calls Try.prog 8 (List.toArray [.agg #[Sl.v a0_0, Sl.v a0_1, .int .i64 a0_2]]) w fun e w' => ∃ v, e = .returned v ∧ R v w' := by
  refine enter 120 Try.func8 rfl rfl rfl ?_
  have B := Bx.nil w
  have H := h
  clear h
  refine c_seq (fun Q3 n1 o2 => ?_)
  refine c_region ?_
  obtain ⟨w4, g5, hw, hg, B, H⟩ := at_new' B H
  refine stp (v := .pointer (some ⟨g5, 0, none⟩)) (w' := w4) rfl rfl (r_box (v1 := .agg #[Sl.v a0_0, Sl.v a0_1, .int .i64 a0_2]) rfl rfl (box_run rfl hw hg)) ?_
  clear hw hg
  refine stp (v := .bool false) rfl rfl (r_assign rfl rfl) ?_
  refine fin ?_
  refine n1 _ _ ?_
  refine c_seq (fun Q8 n6 o7 => ?_)
  refine c_seqj (fun a w => ∃ (j1_30 : Bool) (g : Nat → Value) (N : NP), a = A 120 (updl g [(1, .pointer (some (⟨g5, 0, none⟩ : Addr))), (30, .bool j1_30)]) ∧ Bx w N [] ∧ Aft w N (f8_impl_GoodCow.J1 R g5 j1_30)) (fun Q11 n9 o10 => ?_) ?_
  ·
    refine c_region ?_
    refine stp (v := .pointer (some ((⟨g5, 0, none⟩ : Addr).add 2))) rfl rfl (r_fieldAddr (v1 := .pointer (some (⟨g5, 0, none⟩ : Addr))) rfl rfl (fld26_2 _ _)) ?_
    obtain ⟨x12, hx13, H'⟩ := at_ldc H
    replace H := H'; clear H'
    refine stp (v := .int .i64 x12) rfl rfl (r_load (v1 := .pointer (some ((⟨g5, 0, none⟩ : Addr).add 2))) rfl rfl (ld1 Try.underlying3 rfl (hx13 _ (Below.refl _ _)))) ?_
    refine stpc rfl rfl (r_call (vs := [.int .i64 x12, .int .i64 1, .int .i64 3]) rfl rfl (ca22 _ _)) ?_
    refine at_call B H (fun y14 w B H => ?_)
    refine stp (v := .bool (!y14)) rfl rfl (r_not (b := y14) rfl rfl) ?_
    refine stp (v := .bool (!y14)) rfl rfl (r_move rfl rfl) ?_
    rcases Bool.eq_false_or_eq_true (!y14) with hb15 | hb15
    · replace H := at_itet hb15 H
      refine skp (un rfl rfl rfl rfl (congrArg Value.bool hb15) nofun) rfl ?_
      refine skp (un rfl rfl rfl rfl (congrArg Value.bool hb15) nofun) rfl ?_
      refine skp (un rfl rfl rfl rfl (congrArg Value.bool hb15) nofun) rfl ?_
      refine skp (un rfl rfl rfl rfl (congrArg Value.bool hb15) nofun) rfl ?_
      refine stp (v := .bool true) rfl rfl (r_pickt rfl (congrArg Value.bool hb15) rfl) ?_
      refine stp (v := .bool true) rfl rfl (r_move rfl rfl) ?_
      refine skp (un rfl rfl rfl rfl rfl nofun) rfl ?_
      refine skp (un rfl rfl rfl rfl rfl nofun) rfl ?_
      refine skp (un rfl rfl rfl rfl rfl nofun) rfl ?_
      refine skp (un rfl rfl rfl rfl rfl nofun) rfl ?_
      refine skp (un rfl rfl rfl rfl rfl nofun) rfl ?_
      refine stp (v := .bool true) rfl rfl (r_pickt rfl rfl rfl) ?_
      refine fin ?_
      exact n9 _ _ ⟨true, _, _, fr_self rfl, B, H⟩
    · replace H := at_itef hb15 H
      refine stp (v := .pointer (some ((⟨g5, 0, none⟩ : Addr).add 0))) (wn rfl rfl rfl rfl (congrArg Value.bool hb15)) rfl (r_fieldAddr (v1 := .pointer (some (⟨g5, 0, none⟩ : Addr))) rfl rfl (fld26_0 _ _)) ?_
      obtain ⟨x16, hx17, H'⟩ := at_ldc H
      replace H := H'; clear H'
      refine stp (v := Sl.v x16) (wn rfl rfl rfl rfl (congrArg Value.bool hb15)) rfl (r_load (v1 := .pointer (some ((⟨g5, 0, none⟩ : Addr).add 0))) rfl rfl (ld1 Try.underlying23 rfl (hx17 _ (Below.refl _ _)))) ?_
      refine stp (v := .int .i64 (x16.n : Int)) (wn rfl rfl rfl rfl (congrArg Value.bool hb15)) rfl (r_builtin (vs := [Sl.v x16]) rfl rfl (fun _ => lenl Try.underlying23)) ?_
      refine stp (v := .bool (decide (80 < (x16.n : Int)))) (wn rfl rfl rfl rfl (congrArg Value.bool hb15)) rfl (r_gtr (a := (x16.n : Int)) (b := 80) rfl rfl rfl) ?_
      refine stp (v := .bool (decide (80 < (x16.n : Int)))) rfl rfl (r_pickf rfl (congrArg Value.bool hb15) rfl) ?_
      refine stp (v := .bool (decide (80 < (x16.n : Int)))) rfl rfl (r_move rfl rfl) ?_
      rcases Bool.eq_false_or_eq_true (decide (80 < (x16.n : Int))) with hb18 | hb18
      · replace H := at_itet hb18 H
        refine skp (un rfl rfl rfl rfl (congrArg Value.bool hb18) nofun) rfl ?_
        refine skp (un rfl rfl rfl rfl (congrArg Value.bool hb18) nofun) rfl ?_
        refine skp (un rfl rfl rfl rfl (congrArg Value.bool hb18) nofun) rfl ?_
        refine skp (un rfl rfl rfl rfl (congrArg Value.bool hb18) nofun) rfl ?_
        refine skp (un rfl rfl rfl rfl (congrArg Value.bool hb18) nofun) rfl ?_
        refine stp (v := .bool true) rfl rfl (r_pickt rfl (congrArg Value.bool hb18) rfl) ?_
        refine fin ?_
        exact n9 _ _ ⟨true, _, _, fr_self rfl, B, H⟩
      · replace H := at_itef hb18 H
        refine stp (v := .pointer (some ((⟨g5, 0, none⟩ : Addr).add 1))) (wn rfl rfl rfl rfl (congrArg Value.bool hb18)) rfl (r_fieldAddr (v1 := .pointer (some (⟨g5, 0, none⟩ : Addr))) rfl rfl (fld26_1 _ _)) ?_
        obtain ⟨x19, hx20, H'⟩ := at_ldc H
        replace H := H'; clear H'
        refine stp (v := Sl.v x19) (wn rfl rfl rfl rfl (congrArg Value.bool hb18)) rfl (r_load (v1 := .pointer (some ((⟨g5, 0, none⟩ : Addr).add 1))) rfl rfl (ld1 Try.underlying24 rfl (hx20 _ (Below.refl _ _)))) ?_
        refine stp (v := .int .i64 (x19.n : Int)) (wn rfl rfl rfl rfl (congrArg Value.bool hb18)) rfl (r_builtin (vs := [Sl.v x19]) rfl rfl (fun _ => lenl Try.underlying24)) ?_
        refine stpc (wn rfl rfl rfl rfl (congrArg Value.bool hb18)) rfl (r_call (vs := [.int .i64 (x19.n : Int), .int .i64 1, .int .i64 8]) rfl rfl (ca22 _ _)) ?_
        refine at_call B H (fun y21 w B H => ?_)
        refine stp (v := .bool (!y21)) (wn rfl rfl rfl rfl (congrArg Value.bool hb18)) rfl (r_not (b := y21) rfl rfl) ?_
        refine stp (v := .bool (!y21)) rfl rfl (r_pickf rfl (congrArg Value.bool hb18) rfl) ?_
        refine fin ?_
        exact n9 _ _ ⟨!y21, _, _, fr_self rfl, B, H⟩
  ·
    rintro _ w ⟨j1_30, g, N, rfl, B, H⟩
    refine c_cond (b := j1_30) rfl (fun hb22 => ?_) (fun hb22 => ?_)
    · replace H := at_itet hb22 H
      refine c_seq (fun Q25 n23 o24 => ?_)
      refine c_region ?_
      refine stp (v := .bool false) rfl rfl (r_assign rfl rfl) ?_
      refine fin ?_
      refine n23 _ _ ?_
      refine c_ret (o7 _ _ _ nofun ((done (vs := [.bool false]) (.tmp rfl .nil) rfl ⟨_, rfl, H.now⟩)))
    · replace H := at_itef hb22 H
      refine c_skip ?_
      refine n6 _ _ ?_
      refine c_seq (fun Q28 n26 o27 => ?_)
      obtain ⟨x29, hx30, H'⟩ := at_ldcz H
      replace H := H'; clear H'
      obtain ⟨x31, hx32, H'⟩ := at_ldcz H
      replace H := H'; clear H'
      obtain ⟨hm0, H'⟩ := at_ass H
      replace H := H'; clear H'
      obtain ⟨hm1, H'⟩ := at_ass H
      replace H := H'; clear H'
      refine c_open 11 (kap [10] [3, 7, 8, 9]) (fun i b => bif Nat.beq i 3 then .slice (some ⟨b, 0, none⟩) (x29.n : Int).toNat (x29.n : Int).toNat else bif Nat.beq i 7 then .slice (some ⟨b, 0, none⟩) (x31.n : Int).toNat (x31.n : Int).toNat else .pointer (some ⟨b, 0, none⟩)) (hvf [(3, 33, .int .i64 (x29.n : Int)), (7, 37, .int .i64 (x31.n : Int))]) (fun i => bif Nat.beq i 10 then [(3, 34), (8, 3)] else []) [0, 1, 2, 4, 5, 6, 10] [(3, 34), (7, 38), (8, 3), (9, 4)] [(3, 3, (madeCells (Value.cells (.int .i64 0)) ((x29.n : Int).toNat * 1))), (8, 24, #[Sl.v Sl.nil]), (7, 3, (madeCells (Value.cells (.int .i64 0)) ((x31.n : Int).toNat * 1))), (9, 24, #[Sl.v Sl.nil])] _ rfl (chk_hv (hs := [(3, 33), (7, 37)]) rfl (by kernel_rfl)) (by kernel_rfl) rfl B (flk (by simp) (al_cons rfl (.inr rfl) (fun _ g hg => (r_makeSlice (v1 := .int .i64 (x29.n : Int)) (v2 := .int .i64 (x29.n : Int)) rfl (hg (33, _) (by simp [hvf])) (hg (33, _) (by simp [hvf])) (mk_run Try.underlying24 inf3 hm0))) (al_cons rfl (.inr rfl) (fun _ g hg => (r_makeSlice (v1 := .int .i64 (x31.n : Int)) (v2 := .int .i64 (x31.n : Int)) rfl (hg (37, _) (by simp [hvf])) (hg (37, _) (by simp [hvf])) (mk_run Try.underlying24 inf3 hm1))) (al_cons rfl (.inr rfl) (fun _ g hg => (r_alloc rfl (alloc_run (al24 _) rfl rfl))) (al_cons rfl (.inr rfl) (fun _ g hg => (r_alloc rfl (alloc_run (al24 _) rfl rfl))) al_nil))))) ?_
      refine ph_q (v := .pointer (some ((⟨g5, 0, none⟩ : Addr).add 0))) rfl rfl rfl (hv_ok rfl rfl) (qy_val rfl (fun w_ ρ_ hb_ => (r_fieldAddr (v1 := .pointer (some (⟨g5, 0, none⟩ : Addr))) rfl rfl (fld26_0 _ _)))) ?_
      refine ph_q (v := Sl.v x29) rfl rfl rfl (hv_ok rfl rfl) (qy_val rfl (fun w_ ρ_ hb_ => (r_load (v1 := .pointer (some ((⟨g5, 0, none⟩ : Addr).add 0))) rfl rfl (ld1 Try.underlying23 rfl (Cls.ld hx30 hb_))))) ?_
      refine ph_q (v := .int .i64 (x29.n : Int)) rfl rfl rfl (hv_of (d := 33) (by intro q hq hd; simp only [List.mem_cons, List.not_mem_nil, or_false] at hq; rcases hq with rfl | rfl <;> first | rfl | (simp at hd))) (qy_val rfl (fun w_ ρ_ hb_ => (r_builtin (vs := [Sl.v x29]) rfl rfl (fun _ => lenl Try.underlying23)))) ?_
      refine ph_q (v := .pointer (some ((⟨g5, 0, none⟩ : Addr).add 0))) rfl rfl rfl (hv_ok rfl rfl) (qy_val rfl (fun w_ ρ_ hb_ => (r_fieldAddr (v1 := .pointer (some (⟨g5, 0, none⟩ : Addr))) rfl rfl (fld26_0 _ _)))) ?_
      refine ph_q (v := Sl.v x31) rfl rfl rfl (hv_ok rfl rfl) (qy_val rfl (fun w_ ρ_ hb_ => (r_load (v1 := .pointer (some ((⟨g5, 0, none⟩ : Addr).add 0))) rfl rfl (ld1 Try.underlying23 rfl (Cls.ld hx32 hb_))))) ?_
      refine ph_q (v := .int .i64 (x31.n : Int)) rfl rfl rfl (hv_of (d := 37) (by intro q hq hd; simp only [List.mem_cons, List.not_mem_nil, or_false] at hq; rcases hq with rfl | rfl <;> first | rfl | (simp at hd))) (qy_val rfl (fun w_ ρ_ hb_ => (r_builtin (vs := [Sl.v x31]) rfl rfl (fun _ => lenl Try.underlying23)))) ?_
      refine ph_e rfl rfl (fun w33 ρ37 hc hs => ?_)
      obtain ⟨hx, N34, hz35, B36⟩ := hc
      replace H := H.step hz35
      clear hz35
      obtain ⟨g38, hg3⟩ := Option.isSome_iff_exists.1 (hs (3, 34) (by simp))
      obtain ⟨g39, hg8⟩ := Option.isSome_iff_exists.1 (hs (8, 3) (by simp))
      obtain ⟨N34, B36, H⟩ := at_pub (g := g38) (T := 3) (cs := (madeCells (Value.cells (.int .i64 0)) ((x29.n : Int).toNat * 1))) (bs := flb [(8, 24, #[Sl.v Sl.nil]), (7, 3, (madeCells (Value.cells (.int .i64 0)) ((x31.n : Int).toNat * 1))), (9, 24, #[Sl.v Sl.nil])] ρ37 ++ []) (by simpa only [flb, List.filterMap_cons, hg3, Option.map_some, List.cons_append] using B36) H
      replace hx := hx_cons hg3 hx
      replace B36 : Bx w33 N34 (flb [(7, 3, (madeCells (Value.cells (.int .i64 0)) ((x31.n : Int).toNat * 1))), (9, 24, #[Sl.v Sl.nil])] ρ37 ++ [⟨g39, 24, #[Sl.v Sl.nil]⟩]) := (show Bx w33 N34 (⟨g39, 24, #[Sl.v Sl.nil]⟩ :: (flb [(7, 3, (madeCells (Value.cells (.int .i64 0)) ((x31.n : Int).toNat * 1))), (9, 24, #[Sl.v Sl.nil])] ρ37 ++ [])) by simpa only [flb, List.filterMap_cons, hg8, Option.map_some, List.cons_append] using B36).perm (by rw [show ([⟨g39, 24, #[Sl.v Sl.nil]⟩] : List Bk) = ([] : List Bk) ++ ([⟨g39, 24, #[Sl.v Sl.nil]⟩] : List Bk) from rfl, ← List.append_assoc]; exact (List.perm_append_singleton _ _))
      replace hx := hx_cons hg8 hx
      refine EF_frame (f' := updl _ [(34, .slice (some ⟨g38, 0, none⟩) (x29.n : Int).toNat (x29.n : Int).toNat), (3, .pointer (some ⟨g39, 0, none⟩))]) (wfl_cons hg3 rfl (wfl_cons hg8 rfl wfl_nil)) ?_
      replace B36 : Bx _ _ ([⟨g39, 24, #[Sl.v Sl.nil]⟩] ++ flb [(7, 3, (madeCells (Value.cells (.int .i64 0)) ((x31.n : Int).toNat * 1))), (9, 24, #[Sl.v Sl.nil])] ρ37) := B36.perm List.perm_append_comm
      obtain ⟨w2, hr, B, H⟩ := B36.st1 H (i := 0) (j := 0) (T := 24) (v := Sl.v (⟨some ⟨g38, 0, none⟩, (x29.n : Int).toNat, (x29.n : Int).toNat⟩ : Sl)) (ad := ⟨g39, 0, none⟩) rfl rfl rfl rfl sz24
      refine ef_skp (w' := w2) rfl (r_store (v1 := .pointer (some ⟨g39, 0, none⟩)) (v2 := Sl.v (⟨some ⟨g38, 0, none⟩, (x29.n : Int).toNat, (x29.n : Int).toNat⟩ : Sl)) rfl rfl rfl hr) ?_
      clear hr
      replace B : Bx _ _ ([⟨g39, 24, #[Sl.v (⟨some ⟨g38, 0, none⟩, (x29.n : Int).toNat, (x29.n : Int).toNat⟩ : Sl)]⟩] ++ flb [(7, 3, (madeCells (Value.cells (.int .i64 0)) ((x31.n : Int).toNat * 1))), (9, 24, #[Sl.v Sl.nil])] ρ37) := B
      replace B := B.perm List.perm_append_comm
      replace H := at_chk H; obtain ⟨hx32, H'⟩ := H; replace H := H'; clear H'
      refine ⟨Cls w2 N34 [⟨g39, 24, #[Sl.v (⟨some ⟨g38, 0, none⟩, (x29.n : Int).toNat, (x29.n : Int).toNat⟩ : Sl)]⟩] [(7, 3, (madeCells (Value.cells (.int .i64 0)) ((x31.n : Int).toNat * 1))), (9, 24, #[Sl.v Sl.nil])] [(8, g39), (3, g38)], Cls.now hx B, (flk (by simp) (al_cons rfl (.inl rfl) (fun _ g hg => (r_makeSlice (v1 := .int .i64 (x29.n : Int)) (v2 := .int .i64 (x29.n : Int)) rfl (hg (33, _) (by simp [hvf])) (hg (33, _) (by simp [hvf])) (mk_run Try.underlying24 inf3 hm0))) (al_cons rfl (.inr rfl) (fun _ g hg => (r_makeSlice (v1 := .int .i64 (x31.n : Int)) (v2 := .int .i64 (x31.n : Int)) rfl (hg (37, _) (by simp [hvf])) (hg (37, _) (by simp [hvf])) (mk_run Try.underlying24 inf3 hm1))) (al_cons rfl (.inl rfl) (fun _ g hg => (r_alloc rfl (alloc_run (al24 _) rfl rfl))) (al_cons rfl (.inr rfl) (fun _ g hg => (r_alloc rfl (alloc_run (al24 _) rfl rfl))) al_nil))))), (pd_anc (re := [6, 5, 4]) (by kernel_rfl) (re_cons rfl rfl rfl (qy_val rfl (fun w_ ρ_ hb_ => (r_builtin (vs := [Sl.v x31]) rfl rfl (fun _ => lenl Try.underlying23)))) (re_cons rfl rfl rfl (qy_val rfl (fun w_ ρ_ hb_ => (r_load (v1 := .pointer (some ((⟨g5, 0, none⟩ : Addr).add 0))) rfl rfl (ld1 Try.underlying23 rfl (Cls.ld hx32 hb_))))) (re_cons rfl rfl rfl (qy_val rfl (fun w_ ρ_ hb_ => (r_fieldAddr (v1 := .pointer (some (⟨g5, 0, none⟩ : Addr))) rfl rfl (fld26_0 _ _)))) re_nil)))), ?_⟩
      clear hx
      replace B := B.sub (List.sublist_append_right _ _)
      refine ph_nil (fun w ρ N hz hx B hs => ?_)
      replace H := H.step hz
      have hg3 := hx (3, g38) (by simp)
      replace hg3 : ρ 3 = some g38 := hg3
      obtain ⟨g40, hg7⟩ := Option.isSome_iff_exists.1 (hs (7, 38) (by simp))
      have hg8 := hx (8, g39) (by simp)
      replace hg8 : ρ 8 = some g39 := hg8
      obtain ⟨g41, hg9⟩ := Option.isSome_iff_exists.1 (hs (9, 4) (by simp))
      replace B : Bx w N [⟨g40, 3, (madeCells (Value.cells (.int .i64 0)) ((x31.n : Int).toNat * 1))⟩, ⟨g41, 24, #[Sl.v Sl.nil]⟩, ⟨g39, 24, #[Sl.v (⟨some ⟨g38, 0, none⟩, (x29.n : Int).toNat, (x29.n : Int).toNat⟩ : Sl)]⟩] := by simpa only [flb, List.filterMap_cons, List.filterMap_nil, hg3, hg7, hg8, hg9, Option.map_some, List.cons_append, List.nil_append] using B
      refine WL_frame (f' := updl _ [(34, .slice (some ⟨g38, 0, none⟩) (x29.n : Int).toNat (x29.n : Int).toNat), (38, .slice (some ⟨g40, 0, none⟩) (x31.n : Int).toNat (x31.n : Int).toNat), (3, .pointer (some ⟨g39, 0, none⟩)), (4, .pointer (some ⟨g41, 0, none⟩))]) (wfl_cons hg3 rfl (wfl_cons hg7 rfl (wfl_cons hg8 rfl (wfl_cons hg9 rfl wfl_nil)))) ?_
      obtain ⟨N, B, H⟩ := at_pub B H
      obtain ⟨N, B, H⟩ := at_pub B H
      replace B : Bx w N [⟨g39, 24, #[Sl.v (⟨some ⟨g38, 0, none⟩, (x29.n : Int).toNat, (x29.n : Int).toNat⟩ : Sl)]⟩] := (show Bx w N (([] : List Bk) ++ ([⟨g39, 24, #[Sl.v (⟨some ⟨g38, 0, none⟩, (x29.n : Int).toNat, (x29.n : Int).toNat⟩ : Sl)]⟩] : List Bk)) from B).perm (List.perm_append_comm (l₁ := ([⟨g39, 24, #[Sl.v (⟨some ⟨g38, 0, none⟩, (x29.n : Int).toNat, (x29.n : Int).toNat⟩ : Sl)]⟩] : List Bk)))
      obtain ⟨N, B, H⟩ := at_pub B H
      obtain ⟨hc42, hf43, B', H'⟩ := at_stc B H
      replace B := B'; clear B'
      replace H := H'; clear H'
      refine stp0 rfl rfl (r_store (v1 := .pointer (some (⟨g41, 0, none⟩ : Addr))) (v2 := Sl.v (⟨some ⟨g40, 0, none⟩, (x31.n : Int).toNat, (x31.n : Int).toNat⟩ : Sl)) rfl rfl rfl (st1 rfl sz24 hc42 hf43)) ?_
      refine fin ?_
      refine n26 _ _ ?_
      refine c_seq (fun Q46 n44 o45 => ?_)
      refine c_region ?_
      obtain ⟨w47, g48, hw, hg, B, H⟩ := at_new' B H
      refine stp (v := Sl.v (⟨some ⟨g48, 0, none⟩, 0, 0⟩ : Sl)) (w' := w47) rfl rfl (r_buildSlice (qs := []) rfl rfl (bs_run (site3  _) hw hg)) ?_
      clear hw hg
      obtain ⟨w49, g50, hw, hg, B, H⟩ := at_new' B H
      refine stp (v := .pointer (some ⟨g50, 0, none⟩)) (w' := w49) rfl rfl (r_alloc rfl (alloc_run (al24 _) hw hg)) ?_
      clear hw hg
      obtain ⟨hc51, hf52, B', H'⟩ := at_stc B H
      replace B := B'; clear B'
      replace H := H'; clear H'
      refine stp0 rfl rfl (r_store (v1 := .pointer (some (⟨g50, 0, none⟩ : Addr))) (v2 := Sl.v (⟨some ⟨g48, 0, none⟩, 0, 0⟩ : Sl)) rfl rfl rfl (st1 rfl sz24 hc51 hf52)) ?_
      refine fin ?_
      refine n44 _ _ ?_
      refine c_seq (fun Q55 n53 o54 => ?_)
      refine c_region ?_
      refine stp (v := .func (.func 32) #[] #[.pointer (some (⟨g5, 0, none⟩ : Addr)), .pointer (some (⟨g41, 0, none⟩ : Addr)), .pointer (some (⟨g39, 0, none⟩ : Addr)), .pointer (some (⟨g50, 0, none⟩ : Addr))]) rfl rfl (r_makeFunc rfl rfl rfl) ?_
      refine stp (v := .func (.func 32) #[] #[.pointer (some (⟨g5, 0, none⟩ : Addr)), .pointer (some (⟨g41, 0, none⟩ : Addr)), .pointer (some (⟨g39, 0, none⟩ : Addr)), .pointer (some (⟨g50, 0, none⟩ : Addr))]) rfl rfl (r_assign rfl rfl) ?_
      refine fin ?_
      refine n53 _ _ ?_
      refine c_seq (fun Q58 n56 o57 => ?_)
      refine c_seq (fun Q61 n59 o60 => ?_)
      refine c_region ?_
      refine stp (v := .pointer (some ((⟨g5, 0, none⟩ : Addr).add 1))) rfl rfl (r_fieldAddr (v1 := .pointer (some (⟨g5, 0, none⟩ : Addr))) rfl rfl (fld26_1 _ _)) ?_
      obtain ⟨x62, hx63, H'⟩ := at_ldc H
      replace H := H'; clear H'
      refine stp (v := Sl.v x62) rfl rfl (r_load (v1 := .pointer (some ((⟨g5, 0, none⟩ : Addr).add 1))) rfl rfl (ld1 Try.underlying24 rfl (hx63 _ (Below.refl _ _)))) ?_
      refine stp (v := .int .i64 (x62.n : Int)) rfl rfl (r_builtin (vs := [Sl.v x62]) rfl rfl (fun _ => lenl Try.underlying24)) ?_
      refine stp (v := .int .i64 0) rfl rfl (r_move rfl rfl) ?_
      refine fin ?_
      refine n59 _ _ ?_
      refine c_block (fun Q67 n64 x66 o65 => ?_)
      refine c_loop (σ := Int) (s0 := 0) (fun s => [(1, .pointer (some (⟨g5, 0, none⟩ : Addr))), (3, .pointer (some (⟨g39, 0, none⟩ : Addr))), (4, .pointer (some (⟨g41, 0, none⟩ : Addr))), (5, .pointer (some (⟨g50, 0, none⟩ : Addr))), (6, .func (.func 32) #[] #[.pointer (some (⟨g5, 0, none⟩ : Addr)), .pointer (some (⟨g41, 0, none⟩ : Addr)), .pointer (some (⟨g39, 0, none⟩ : Addr)), .pointer (some (⟨g50, 0, none⟩ : Addr))]), (42, Sl.v x62), (43, .int .i64 (x62.n : Int)), (44, .int .i64 s)]) (fun s => []) B H rfl ?_
      rintro Q70 next71 s2_44 g w N nx68 o69 B H
      refine c_seq (fun Q74 n72 o73 => ?_)
      refine c_region ?_
      refine stp (v := .bool (decide (s2_44 < (x62.n : Int)))) rfl rfl (r_lss (a := s2_44) (b := (x62.n : Int)) rfl rfl rfl) ?_
      refine fin ?_
      refine n72 _ _ ?_
      refine c_seq (fun Q77 n75 o76 => ?_)
      refine c_cond (b := decide (s2_44 < (x62.n : Int))) rfl (fun hb78 => ?_) (fun hb78 => ?_)
      · replace H := at_itet hb78 H
        refine c_skip ?_
        refine n75 _ _ ?_
        refine c_seq (fun Q81 n79 o80 => ?_)
        refine c_block (fun Q85 n82 x84 o83 => ?_)
        refine c_seq (fun Q88 n86 o87 => ?_)
        refine c_region ?_
        obtain ⟨p89, p90, he, h0, h1, hpa, H'⟩ := at_idx' H
        replace H := H'; clear H'
        refine stp (v := .pointer (some p90)) rfl rfl (r_indexAddr (v1 := Sl.v x62) (v2 := .int .i64 s2_44) rfl rfl rfl (ix' Try.underlying24 sz3 he h0 h1 hpa)) ?_
        clear he h0 h1 hpa
        obtain ⟨x91, hx92, H'⟩ := at_ldc H
        replace H := H'; clear H'
        refine stp (v := .int .i64 x91) rfl rfl (r_load (v1 := .pointer (some p90)) rfl rfl (ld1 Try.underlying3 rfl (hx92 _ (Below.refl _ _)))) ?_
        refine stp (v := .int .i64 x91) rfl rfl (r_assign rfl rfl) ?_
        refine fin ?_
        refine n86 _ _ ?_
        refine c_seq (fun Q95 n93 o94 => ?_)
        refine c_region ?_
        refine stp (v := .func (.func 32) #[] #[.pointer (some (⟨g5, 0, none⟩ : Addr)), .pointer (some (⟨g41, 0, none⟩ : Addr)), .pointer (some (⟨g39, 0, none⟩ : Addr)), .pointer (some (⟨g50, 0, none⟩ : Addr))]) rfl rfl (r_move rfl rfl) ?_
        refine stp (v := .int .i64 x91) rfl rfl (r_move rfl rfl) ?_
        refine stp (v := .pointer (some ((⟨g5, 0, none⟩ : Addr).add 2))) rfl rfl (r_fieldAddr (v1 := .pointer (some (⟨g5, 0, none⟩ : Addr))) rfl rfl (fld26_2 _ _)) ?_
        obtain ⟨x96, hx97, H'⟩ := at_ldc H
        replace H := H'; clear H'
        refine stp (v := .int .i64 x96) rfl rfl (r_load (v1 := .pointer (some ((⟨g5, 0, none⟩ : Addr).add 2))) rfl rfl (ld1 Try.underlying3 rfl (hx97 _ (Below.refl _ _)))) ?_
        refine stpc rfl rfl (r_callv (x := .tmp 48) (vs := [.int .i64 x91, .int .i64 x96]) (cs := #[.pointer (some (⟨g5, 0, none⟩ : Addr)), .pointer (some (⟨g41, 0, none⟩ : Addr)), .pointer (some (⟨g39, 0, none⟩ : Addr)), .pointer (some (⟨g50, 0, none⟩ : Addr))]) (us := #[.int .i64 x91, .int .i64 x96, .pointer (some (⟨g5, 0, none⟩ : Addr)), .pointer (some (⟨g41, 0, none⟩ : Addr)), .pointer (some (⟨g39, 0, none⟩ : Addr)), .pointer (some (⟨g50, 0, none⟩ : Addr))]) rfl rfl rfl (by simp) (ca32 _ _)) ?_
        refine at_call B H (fun y98 w B H => ?_)
        refine stp (v := .bool (!y98)) rfl rfl (r_not (b := y98) rfl rfl) ?_
        refine fin ?_
        refine n93 _ _ ?_
        refine c_cond (b := !y98) rfl (fun hb99 => ?_) (fun hb99 => ?_)
        · replace H := at_itet hb99 H
          refine c_seq (fun Q102 n100 o101 => ?_)
          refine c_region ?_
          refine stp (v := .bool false) rfl rfl (r_assign rfl rfl) ?_
          refine fin ?_
          refine n100 _ _ ?_
          refine c_ret (o83 _ _ _ nofun (by simp) (o80 _ _ _ nofun (o69 _ _ _ nofun (o65 _ _ _ nofun (by simp) (o57 _ _ _ nofun ((done (vs := [.bool false]) (.tmp rfl .nil) rfl ⟨_, rfl, H.now⟩)))))))
        · replace H := at_itef hb99 H
          refine c_skip ?_
          refine n82 _ _ ?_
          refine n79 _ _ ?_
          refine c_region ?_
          refine stp (v := .int .i64 (IntKind.i64.wrap (s2_44 + 1))) rfl rfl (r_add (a := s2_44) (b := 1) rfl rfl rfl) ?_
          refine stp (v := .int .i64 (IntKind.i64.wrap (s2_44 + 1))) rfl rfl (r_move rfl rfl) ?_
          refine fin ?_
          exact nx68 (IntKind.i64.wrap (s2_44 + 1)) _ _ _ B H rfl
      · replace H := at_itef hb78 H
        refine c_exit (o76 _ _ _ nofun (o69 _ _ _ nofun (x66 _ _ ?_)))
        refine n56 _ _ ?_
        refine c_seq (fun Q105 n103 o104 => ?_)
        refine c_seq (fun Q108 n106 o107 => ?_)
        refine c_region ?_
        refine stp (v := .int .i64 0) rfl rfl (r_assign rfl rfl) ?_
        refine fin ?_
        refine n106 _ _ ?_
        refine c_block (fun Q112 n109 x111 o110 => ?_)
        refine c_loop (σ := Int) (s0 := 0) (fun s => [(1, .pointer (some (⟨g5, 0, none⟩ : Addr))), (3, .pointer (some (⟨g39, 0, none⟩ : Addr))), (4, .pointer (some (⟨g41, 0, none⟩ : Addr))), (5, .pointer (some (⟨g50, 0, none⟩ : Addr))), (6, .func (.func 32) #[] #[.pointer (some (⟨g5, 0, none⟩ : Addr)), .pointer (some (⟨g41, 0, none⟩ : Addr)), .pointer (some (⟨g39, 0, none⟩ : Addr)), .pointer (some (⟨g50, 0, none⟩ : Addr))]), (9, .int .i64 s)]) (fun s => []) B H rfl ?_
        rintro Q115 next116 s3_9 g w N nx113 o114 B H
        refine c_seq (fun Q119 n117 o118 => ?_)
        refine c_seq (fun Q122 n120 o121 => ?_)
        refine c_region ?_
        refine stp (v := .int .i64 s3_9) rfl rfl (r_move rfl rfl) ?_
        obtain ⟨x123, hx124, H'⟩ := at_ldc H
        replace H := H'; clear H'
        refine stp (v := Sl.v x123) rfl rfl (r_load (v1 := .pointer (some (⟨g50, 0, none⟩ : Addr))) rfl rfl (ld1 Try.underlying24 rfl (hx124 _ (Below.refl _ _)))) ?_
        refine stp (v := .int .i64 (x123.n : Int)) rfl rfl (r_builtin (vs := [Sl.v x123]) rfl rfl (fun _ => lenl Try.underlying24)) ?_
        refine stp (v := .bool (decide (s3_9 < (x123.n : Int)))) rfl rfl (r_lss (a := s3_9) (b := (x123.n : Int)) rfl rfl rfl) ?_
        refine fin ?_
        refine n120 _ _ ?_
        refine c_cond (b := decide (s3_9 < (x123.n : Int))) rfl (fun hb125 => ?_) (fun hb125 => ?_)
        · replace H := at_itet hb125 H
          refine c_skip ?_
          refine n117 _ _ ?_
          refine c_seq (fun Q128 n126 o127 => ?_)
          refine c_block (fun Q132 n129 x131 o130 => ?_)
          refine c_seq (fun Q135 n133 o134 => ?_)
          refine c_quiet rfl (by kernel_rfl) ?_
          refine qstp (v := .pointer (some ((⟨g5, 0, none⟩ : Addr).add 0))) rfl rfl (fun w_ hb_ => (r_fieldAddr (v1 := .pointer (some (⟨g5, 0, none⟩ : Addr))) rfl rfl (fld26_0 _ _))) ?_
          obtain ⟨x136, hx137, H'⟩ := at_ldc H
          replace H := H'; clear H'
          refine qstp (v := Sl.v x136) rfl rfl (fun w_ hb_ => (r_load (v1 := .pointer (some ((⟨g5, 0, none⟩ : Addr).add 0))) rfl rfl (ld1 Try.underlying23 rfl (hx137 _ hb_)))) ?_
          obtain ⟨x138, hx139, H'⟩ := at_ldc H
          replace H := H'; clear H'
          refine qstp (v := Sl.v x138) rfl rfl (fun w_ hb_ => (r_load (v1 := .pointer (some (⟨g50, 0, none⟩ : Addr))) rfl rfl (ld1 Try.underlying24 rfl (hx139 _ hb_)))) ?_
          refine qstp (v := .int .i64 s3_9) rfl rfl (fun w_ hb_ => (r_move rfl rfl)) ?_
          obtain ⟨p140, p141, he, h0, h1, hpa, H'⟩ := at_idx' H
          replace H := H'; clear H'
          refine qstp (v := .pointer (some p141)) rfl rfl (fun w_ hb_ => (r_indexAddr (v1 := Sl.v x138) (v2 := .int .i64 s3_9) rfl rfl rfl (ix' Try.underlying24 sz3 he h0 h1 hpa))) ?_
          clear he h0 h1 hpa
          obtain ⟨x142, hx143, H'⟩ := at_ldc H
          replace H := H'; clear H'
          refine qstp (v := .int .i64 x142) rfl rfl (fun w_ hb_ => (r_load (v1 := .pointer (some p141)) rfl rfl (ld1 Try.underlying3 rfl (hx143 _ hb_)))) ?_
          obtain ⟨p144, p145, he, h0, h1, hpa, H'⟩ := at_idx' H
          replace H := H'; clear H'
          refine qstp (v := .pointer (some p145)) rfl rfl (fun w_ hb_ => (r_indexAddr (v1 := Sl.v x136) (v2 := .int .i64 x142) rfl rfl rfl (ix' Try.underlying23 sz70 he h0 h1 hpa))) ?_
          clear he h0 h1 hpa
          refine qstp (v := .pointer (some (p145.add 2))) rfl rfl (fun w_ hb_ => (r_fieldAddr (v1 := .pointer (some p145)) rfl rfl (fld70_2 _ _))) ?_
          obtain ⟨x146, hx147, H'⟩ := at_ldc H
          replace H := H'; clear H'
          refine qstp (v := Sl.v x146) rfl rfl (fun w_ hb_ => (r_load (v1 := .pointer (some (p145.add 2))) rfl rfl (ld1 Try.underlying24 rfl (hx147 _ hb_)))) ?_
          refine qstp (v := .int .i64 (x146.n : Int)) rfl rfl (fun w_ hb_ => (r_builtin (vs := [Sl.v x146]) rfl rfl (fun _ => lenl Try.underlying24))) ?_
          refine qstp (v := .int .i64 0) rfl rfl (fun w_ hb_ => (r_move rfl rfl)) ?_
          refine qfin (fun w hb => ?_)
          replace B := B.quiet (Qt.of_below hb)
          replace H := H.step (Nz.of_below hb)
          refine n133 _ _ ?_
          refine c_block (fun Q151 n148 x150 o149 => ?_)
          refine c_loop (σ := Int) (s0 := 0) (fun s => [(1, .pointer (some (⟨g5, 0, none⟩ : Addr))), (3, .pointer (some (⟨g39, 0, none⟩ : Addr))), (4, .pointer (some (⟨g41, 0, none⟩ : Addr))), (5, .pointer (some (⟨g50, 0, none⟩ : Addr))), (6, .func (.func 32) #[] #[.pointer (some (⟨g5, 0, none⟩ : Addr)), .pointer (some (⟨g41, 0, none⟩ : Addr)), .pointer (some (⟨g39, 0, none⟩ : Addr)), .pointer (some (⟨g50, 0, none⟩ : Addr))]), (9, .int .i64 s3_9), (69, Sl.v x146), (70, .int .i64 (x146.n : Int)), (71, .int .i64 s)]) (fun s => []) B H rfl ?_
          rintro Q154 next155 s4_71 g w N nx152 o153 B H
          refine c_seq (fun Q158 n156 o157 => ?_)
          refine c_region ?_
          refine stp (v := .bool (decide (s4_71 < (x146.n : Int)))) rfl rfl (r_lss (a := s4_71) (b := (x146.n : Int)) rfl rfl rfl) ?_
          refine fin ?_
          refine n156 _ _ ?_
          refine c_seq (fun Q161 n159 o160 => ?_)
          refine c_cond (b := decide (s4_71 < (x146.n : Int))) rfl (fun hb162 => ?_) (fun hb162 => ?_)
          · replace H := at_itet hb162 H
            refine c_skip ?_
            refine n159 _ _ ?_
            refine c_seq (fun Q165 n163 o164 => ?_)
            refine c_block (fun Q169 n166 x168 o167 => ?_)
            refine c_seq (fun Q172 n170 o171 => ?_)
            refine c_region ?_
            obtain ⟨p173, p174, he, h0, h1, hpa, H'⟩ := at_idx' H
            replace H := H'; clear H'
            refine stp (v := .pointer (some p174)) rfl rfl (r_indexAddr (v1 := Sl.v x146) (v2 := .int .i64 s4_71) rfl rfl rfl (ix' Try.underlying24 sz3 he h0 h1 hpa)) ?_
            clear he h0 h1 hpa
            obtain ⟨x175, hx176, H'⟩ := at_ldc H
            replace H := H'; clear H'
            refine stp (v := .int .i64 x175) rfl rfl (r_load (v1 := .pointer (some p174)) rfl rfl (ld1 Try.underlying3 rfl (hx176 _ (Below.refl _ _)))) ?_
            refine stp (v := .int .i64 x175) rfl rfl (r_assign rfl rfl) ?_
            refine fin ?_
            refine n170 _ _ ?_
            refine c_seq (fun Q179 n177 o178 => ?_)
            refine c_open 10 (kap [] []) (fun i b => .pointer (some ⟨b, 0, none⟩)) (fun _ => []) (fun i => []) [0, 1, 2, 3, 4, 5, 6, 7, 8, 9] [] [] _ rfl (by kernel_rfl) (by kernel_rfl) rfl B (flk (by simp) al_nil) ?_
            refine ph_q (v := .func (.func 32) #[] #[.pointer (some (⟨g5, 0, none⟩ : Addr)), .pointer (some (⟨g41, 0, none⟩ : Addr)), .pointer (some (⟨g39, 0, none⟩ : Addr)), .pointer (some (⟨g50, 0, none⟩ : Addr))]) rfl rfl rfl (hv_ok rfl rfl) (qy_val rfl (fun w_ ρ_ hb_ => (r_move rfl rfl))) ?_
            refine ph_q (v := .int .i64 x175) rfl rfl rfl (hv_ok rfl rfl) (qy_val rfl (fun w_ ρ_ hb_ => (r_move rfl rfl))) ?_
            obtain ⟨x180, hx181, H'⟩ := at_ldcz H
            replace H := H'; clear H'
            refine ph_q (v := Sl.v x180) rfl rfl rfl (hv_ok rfl rfl) (qy_val rfl (fun w_ ρ_ hb_ => (r_load (v1 := .pointer (some (⟨g39, 0, none⟩ : Addr))) rfl rfl (ld1 Try.underlying24 rfl (Cls.ld hx181 hb_))))) ?_
            obtain ⟨x182, hx183, H'⟩ := at_ldcz H
            replace H := H'; clear H'
            refine ph_q (v := Sl.v x182) rfl rfl rfl (hv_ok rfl rfl) (qy_val rfl (fun w_ ρ_ hb_ => (r_load (v1 := .pointer (some (⟨g50, 0, none⟩ : Addr))) rfl rfl (ld1 Try.underlying24 rfl (Cls.ld hx183 hb_))))) ?_
            refine ph_q (v := .int .i64 s3_9) rfl rfl rfl (hv_ok rfl rfl) (qy_val rfl (fun w_ ρ_ hb_ => (r_move rfl rfl))) ?_
            obtain ⟨p184, p185, he186, h0187, h1188, hpa189, H'⟩ := at_idx' H
            replace H := H'; clear H'
            refine ph_q (v := .pointer (some p185)) rfl rfl rfl (hv_ok rfl rfl) (qy_val rfl (fun w_ ρ_ hb_ => (r_indexAddr (v1 := Sl.v x182) (v2 := .int .i64 s3_9) rfl rfl rfl (ix' Try.underlying24 sz3 he186 h0187 h1188 hpa189)))) ?_
            obtain ⟨x190, hx191, H'⟩ := at_ldcz H
            replace H := H'; clear H'
            refine ph_q (v := .int .i64 x190) rfl rfl rfl (hv_ok rfl rfl) (qy_val rfl (fun w_ ρ_ hb_ => (r_load (v1 := .pointer (some p185)) rfl rfl (ld1 Try.underlying3 rfl (Cls.ld hx191 hb_))))) ?_
            obtain ⟨p192, p193, he194, h0195, h1196, hpa197, H'⟩ := at_idx' H
            replace H := H'; clear H'
            refine ph_q (v := .pointer (some p193)) rfl rfl rfl (hv_ok rfl rfl) (qy_val rfl (fun w_ ρ_ hb_ => (r_indexAddr (v1 := Sl.v x180) (v2 := .int .i64 x190) rfl rfl rfl (ix' Try.underlying24 sz3 he194 h0195 h1196 hpa197)))) ?_
            obtain ⟨x198, hx199, H'⟩ := at_ldcz H
            replace H := H'; clear H'
            refine ph_q (v := .int .i64 x198) rfl rfl rfl (hv_ok rfl rfl) (qy_val rfl (fun w_ ρ_ hb_ => (r_load (v1 := .pointer (some p193)) rfl rfl (ld1 Try.underlying3 rfl (Cls.ld hx199 hb_))))) ?_
            refine ph_q (v := .int .i64 (IntKind.i64.wrap (x198 - 1))) rfl rfl rfl (hv_ok rfl rfl) (qy_val rfl (fun w_ ρ_ hb_ => (r_sub (a := x198) (b := 1) rfl rfl rfl))) ?_
            refine ph_nil0 (fun w N hz B => ?_)
            replace H := H.step hz
            refine stpc rfl rfl (r_callv (x := .tmp 75) (vs := [.int .i64 x175, .int .i64 (IntKind.i64.wrap (x198 - 1))]) (cs := #[.pointer (some (⟨g5, 0, none⟩ : Addr)), .pointer (some (⟨g41, 0, none⟩ : Addr)), .pointer (some (⟨g39, 0, none⟩ : Addr)), .pointer (some (⟨g50, 0, none⟩ : Addr))]) (us := #[.int .i64 x175, .int .i64 (IntKind.i64.wrap (x198 - 1)), .pointer (some (⟨g5, 0, none⟩ : Addr)), .pointer (some (⟨g41, 0, none⟩ : Addr)), .pointer (some (⟨g39, 0, none⟩ : Addr)), .pointer (some (⟨g50, 0, none⟩ : Addr))]) rfl rfl rfl (by simp) (ca32 _ _)) ?_
            refine at_call B H (fun y200 w B H => ?_)
            refine stp (v := .bool (!y200)) rfl rfl (r_not (b := y200) rfl rfl) ?_
            refine fin ?_
            refine n177 _ _ ?_
            refine c_cond (b := !y200) rfl (fun hb201 => ?_) (fun hb201 => ?_)
            · replace H := at_itet hb201 H
              refine c_seq (fun Q204 n202 o203 => ?_)
              refine c_region ?_
              refine stp (v := .bool false) rfl rfl (r_assign rfl rfl) ?_
              refine fin ?_
              refine n202 _ _ ?_
              refine c_ret (o167 _ _ _ nofun (by simp) (o164 _ _ _ nofun (o153 _ _ _ nofun (o149 _ _ _ nofun (by simp) (o130 _ _ _ nofun (by simp) (o127 _ _ _ nofun (o114 _ _ _ nofun (o110 _ _ _ nofun (by simp) (o104 _ _ _ nofun ((done (vs := [.bool false]) (.tmp rfl .nil) rfl ⟨_, rfl, H.now⟩)))))))))))
            · replace H := at_itef hb201 H
              refine c_skip ?_
              refine n166 _ _ ?_
              refine n163 _ _ ?_
              refine c_region ?_
              refine stp (v := .int .i64 (IntKind.i64.wrap (s4_71 + 1))) rfl rfl (r_add (a := s4_71) (b := 1) rfl rfl rfl) ?_
              refine stp (v := .int .i64 (IntKind.i64.wrap (s4_71 + 1))) rfl rfl (r_move rfl rfl) ?_
              refine fin ?_
              exact nx152 (IntKind.i64.wrap (s4_71 + 1)) _ _ _ B H rfl
          · replace H := at_itef hb162 H
            refine c_exit (o160 _ _ _ nofun (o153 _ _ _ nofun (x150 _ _ ?_)))
            refine n129 _ _ ?_
            refine n126 _ _ ?_
            refine c_region ?_
            refine stp (v := .int .i64 s3_9) rfl rfl (r_move rfl rfl) ?_
            refine stp (v := .int .i64 (IntKind.i64.wrap (s3_9 + 1))) rfl rfl (r_add (a := s3_9) (b := 1) rfl rfl rfl) ?_
            refine stp (v := .int .i64 (IntKind.i64.wrap (s3_9 + 1))) rfl rfl (r_assign rfl rfl) ?_
            refine fin ?_
            exact nx113 (IntKind.i64.wrap (s3_9 + 1)) _ _ _ B H rfl
        · replace H := at_itef hb125 H
          refine c_exit (o118 _ _ _ nofun (o114 _ _ _ nofun (x111 _ _ ?_)))
          refine n103 _ _ ?_
          refine c_seq (fun Q207 n205 o206 => ?_)
          refine c_seq (fun Q210 n208 o209 => ?_)
          refine c_region ?_
          refine stp (v := .pointer (some ((⟨g5, 0, none⟩ : Addr).add 0))) rfl rfl (r_fieldAddr (v1 := .pointer (some (⟨g5, 0, none⟩ : Addr))) rfl rfl (fld26_0 _ _)) ?_
          obtain ⟨x211, hx212, H'⟩ := at_ldc H
          replace H := H'; clear H'
          refine stp (v := Sl.v x211) rfl rfl (r_load (v1 := .pointer (some ((⟨g5, 0, none⟩ : Addr).add 0))) rfl rfl (ld1 Try.underlying23 rfl (hx212 _ (Below.refl _ _)))) ?_
          refine stp (v := .int .i64 (x211.n : Int)) rfl rfl (r_builtin (vs := [Sl.v x211]) rfl rfl (fun _ => lenl Try.underlying23)) ?_
          refine stp (v := .int .i64 0) rfl rfl (r_move rfl rfl) ?_
          refine fin ?_
          refine n208 _ _ ?_
          refine c_block (fun Q216 n213 x215 o214 => ?_)
          refine c_loop (σ := Int) (s0 := 0) (fun s => [(4, .pointer (some (⟨g41, 0, none⟩ : Addr))), (89, Sl.v x211), (90, .int .i64 (x211.n : Int)), (91, .int .i64 s)]) (fun s => []) B H rfl ?_
          rintro Q219 next220 s5_91 g w N nx217 o218 B H
          refine c_seq (fun Q223 n221 o222 => ?_)
          refine c_region ?_
          refine stp (v := .bool (decide (s5_91 < (x211.n : Int)))) rfl rfl (r_lss (a := s5_91) (b := (x211.n : Int)) rfl rfl rfl) ?_
          refine fin ?_
          refine n221 _ _ ?_
          refine c_seq (fun Q226 n224 o225 => ?_)
          refine c_cond (b := decide (s5_91 < (x211.n : Int))) rfl (fun hb227 => ?_) (fun hb227 => ?_)
          · replace H := at_itet hb227 H
            refine c_skip ?_
            refine n224 _ _ ?_
            refine c_seq (fun Q230 n228 o229 => ?_)
            refine c_block (fun Q234 n231 x233 o232 => ?_)
            refine c_seq (fun Q237 n235 o236 => ?_)
            refine c_region ?_
            refine stp (v := .int .i64 s5_91) rfl rfl (r_move rfl rfl) ?_
            obtain ⟨p238, p239, he, h0, h1, hpa, H'⟩ := at_idx' H
            replace H := H'; clear H'
            refine stp (v := .pointer (some p239)) rfl rfl (r_indexAddr (v1 := Sl.v x211) (v2 := .int .i64 s5_91) rfl rfl rfl (ix' Try.underlying23 sz70 he h0 h1 hpa)) ?_
            clear he h0 h1 hpa
            obtain ⟨x240_0, hx241, H'⟩ := at_ldc H
            replace H := H'; clear H'
            obtain ⟨x240_1, hx242, H'⟩ := at_ldc H
            replace H := H'; clear H'
            obtain ⟨x240_2, hx243, H'⟩ := at_ldc H
            replace H := H'; clear H'
            refine stp (v := .agg #[.int .i64 x240_0, .string x240_1, Sl.v x240_2]) rfl rfl (r_load (v1 := .pointer (some p239)) rfl rfl (ldn (cs := [.int .i64 x240_0, .string x240_1, Sl.v x240_2]) Try.underlying70 rfl sz70 (cells_start (cells_cons (m := 0) (hx241 _ (Below.refl _ _)) (cells_cons (m := 1) (hx242 _ (Below.refl _ _)) (cells_cons (m := 2) (hx243 _ (Below.refl _ _)) cells_nil)))))) ?_
            obtain ⟨w244, N, g245, hw, hg, B, H⟩ := B.new H 70 #[.int .i64 0, .string (⟨#[]⟩ : ByteArray), Sl.v Sl.nil]
            refine stp (v := .pointer (some ⟨g245, 0, none⟩)) (w' := w244) rfl rfl (r_alloc rfl (alloc_run (al70 _) hw hg)) ?_
            clear hw hg
            refine stp (v := .int .i64 s5_91) rfl rfl (r_assign rfl rfl) ?_
            obtain ⟨w2, hr, B, H⟩ := B.stn H (i := 0) (T := 70) (cs' := #[.int .i64 x240_0, .string x240_1, Sl.v x240_2]) (ad := ⟨g245, 0, none⟩) rfl rfl rfl rfl sz70
            refine stp0 rfl rfl (r_store (v1 := .pointer (some ⟨g245, 0, none⟩)) (v2 := .agg #[.int .i64 x240_0, .string x240_1, Sl.v x240_2]) rfl rfl rfl hr) ?_
            replace B : Bx _ _ [⟨g245, 70, #[.int .i64 x240_0, .string x240_1, Sl.v x240_2]⟩] := B
            clear hr
            refine fin ?_
            refine n235 _ _ ?_
            refine c_seqj (fun a w => ∃ (j6_118 : Bool) (g : Nat → Value) (N : NP), a = A 120 (updl g [(4, .pointer (some (⟨g41, 0, none⟩ : Addr))), (89, Sl.v x211), (90, .int .i64 (x211.n : Int)), (91, .int .i64 s5_91), (118, .bool j6_118)]) ∧ Bx w N [⟨g245, 70, #[.int .i64 x240_0, .string x240_1, Sl.v x240_2]⟩] ∧ Aft w N (f8_impl_GoodCow.J6 R (fun (z0 : Int) => next220 z0) s5_91 j6_118)) (fun Q248 n246 o247 => ?_) ?_
            ·
              refine c_quiet rfl (by kernel_rfl) ?_
              refine qstp (v := .pointer (some ⟨g245, 0, none⟩)) rfl rfl (fun w_ hb_ => (r_fieldAddr (v1 := .pointer (some ⟨g245, 0, none⟩)) rfl rfl (fld70_0 _ _))) ?_
              refine qstp (v := .int .i64 x240_0) rfl rfl (fun w_ hb_ => (r_load (v1 := .pointer (some ⟨g245, 0, none⟩)) rfl rfl (ld1 Try.underlying3 rfl (bx1 ((B.quiet (Qt.of_below hb_)).get 0 rfl) rfl rfl)))) ?_
              obtain ⟨x249, hx250, H'⟩ := at_ldc H
              replace H := H'; clear H'
              refine qstp (v := Sl.v x249) rfl rfl (fun w_ hb_ => (r_load (v1 := .pointer (some (⟨g41, 0, none⟩ : Addr))) rfl rfl (ld1 Try.underlying24 rfl (hx250 _ hb_)))) ?_
              refine qstp (v := .int .i64 s5_91) rfl rfl (fun w_ hb_ => (r_move rfl rfl)) ?_
              obtain ⟨p251, p252, he, h0, h1, hpa, H'⟩ := at_idx' H
              replace H := H'; clear H'
              refine qstp (v := .pointer (some p252)) rfl rfl (fun w_ hb_ => (r_indexAddr (v1 := Sl.v x249) (v2 := .int .i64 s5_91) rfl rfl rfl (ix' Try.underlying24 sz3 he h0 h1 hpa))) ?_
              clear he h0 h1 hpa
              obtain ⟨x253, hx254, H'⟩ := at_ldc H
              replace H := H'; clear H'
              refine qstp (v := .int .i64 x253) rfl rfl (fun w_ hb_ => (r_load (v1 := .pointer (some p252)) rfl rfl (ld1 Try.underlying3 rfl (hx254 _ hb_)))) ?_
              refine qstp (v := .bool (x240_0 != x253)) rfl rfl (fun w_ hb_ => (r_neq (a := x240_0) (b := x253) rfl rfl rfl)) ?_
              refine qstp (v := .bool (x240_0 != x253)) rfl rfl (fun w_ hb_ => (r_move rfl rfl)) ?_
              rcases Bool.eq_false_or_eq_true (x240_0 != x253) with hb255 | hb255
              · replace H := at_itet hb255 H
                refine qskp (un rfl rfl rfl rfl (congrArg Value.bool hb255) nofun) rfl ?_
                refine qskp (un rfl rfl rfl rfl (congrArg Value.bool hb255) nofun) rfl ?_
                refine qskp (un rfl rfl rfl rfl (congrArg Value.bool hb255) nofun) rfl ?_
                refine qskp (un rfl rfl rfl rfl (congrArg Value.bool hb255) nofun) rfl ?_
                refine qskp (un_undef rfl rfl rfl rfl rfl) rfl ?_
                refine qskp (un_undef rfl rfl rfl rfl rfl) rfl ?_
                refine qskp (un_undef rfl rfl rfl rfl rfl) rfl ?_
                refine qskp (un_undef rfl rfl rfl rfl rfl) rfl ?_
                refine qskp (un_undef rfl rfl rfl rfl rfl) rfl ?_
                refine qskp (un_undef rfl rfl rfl rfl rfl) rfl ?_
                refine qskp (un_undef rfl rfl rfl rfl rfl) rfl ?_
                refine qskp (un_undef rfl rfl rfl rfl rfl) rfl ?_
                refine qskp (un_undef rfl rfl rfl rfl rfl) rfl ?_
                refine qskp (un rfl rfl rfl rfl (congrArg Value.bool hb255) nofun) rfl ?_
                refine qstp (v := .bool true) rfl rfl (fun w_ hb_ => (r_pickt rfl (congrArg Value.bool hb255) rfl)) ?_
                refine qfin (fun w hb => ?_)
                replace B := B.quiet (Qt.of_below hb)
                replace H := H.step (Nz.of_below hb)
                exact n246 _ _ ⟨true, _, _, fr_self rfl, B, H⟩
              · replace H := at_itef hb255 H
                refine qstp (v := .pointer (some ⟨g245, 0, none⟩)) (wn rfl rfl rfl rfl (congrArg Value.bool hb255)) rfl (fun w_ hb_ => (r_fieldAddr (v1 := .pointer (some ⟨g245, 0, none⟩)) rfl rfl (fld70_0 _ _))) ?_
                refine qstp (v := .int .i64 x240_0) (wn rfl rfl rfl rfl (congrArg Value.bool hb255)) rfl (fun w_ hb_ => (r_load (v1 := .pointer (some ⟨g245, 0, none⟩)) rfl rfl (ld1 Try.underlying3 rfl (bx1 ((B.quiet (Qt.of_below hb_)).get 0 rfl) rfl rfl)))) ?_
                refine qstp (v := .bool (x240_0 == 0)) (wn rfl rfl rfl rfl (congrArg Value.bool hb255)) rfl (fun w_ hb_ => (r_eql (a := x240_0) (b := 0) rfl rfl rfl)) ?_
                refine qstp (v := .bool (x240_0 == 0)) (wn rfl rfl rfl rfl (congrArg Value.bool hb255)) rfl (fun w_ hb_ => (r_move rfl rfl)) ?_
                rcases Bool.eq_false_or_eq_true (x240_0 == 0) with hb256 | hb256
                · replace H := at_itet hb256 H
                  refine qstp (v := .pointer (some ⟨g245, 1, none⟩)) (wn rfl rfl rfl rfl (congrArg Value.bool hb256)) rfl (fun w_ hb_ => (r_fieldAddr (v1 := .pointer (some ⟨g245, 0, none⟩)) rfl rfl (fld70_1 _ _))) ?_
                  refine qstp (v := .string x240_1) (wn rfl rfl rfl rfl (congrArg Value.bool hb256)) rfl (fun w_ hb_ => (r_load (v1 := .pointer (some ⟨g245, 1, none⟩)) rfl rfl (ld1 Try.underlying9 rfl (bx1 ((B.quiet (Qt.of_below hb_)).get 0 rfl) rfl rfl)))) ?_
                  refine qstp (v := .bool (!(x240_1.toList == (⟨#[]⟩ : ByteArray).toList))) (wn rfl rfl rfl rfl (congrArg Value.bool hb256)) rfl (fun w_ hb_ => (r_sneq (s := x240_1) (t := (⟨#[]⟩ : ByteArray)) rfl rfl rfl)) ?_
                  refine qstp (v := .bool (!(x240_1.toList == (⟨#[]⟩ : ByteArray).toList))) (wn rfl rfl rfl rfl (congrArg Value.bool hb256)) rfl (fun w_ hb_ => (r_move rfl rfl)) ?_
                  rcases Bool.eq_false_or_eq_true (!(x240_1.toList == (⟨#[]⟩ : ByteArray).toList)) with hb257 | hb257
                  · replace H := at_itet hb257 H
                    refine qskp (un rfl rfl rfl rfl (congrArg Value.bool hb257) nofun) rfl ?_
                    refine qskp (un rfl rfl rfl rfl (congrArg Value.bool hb257) nofun) rfl ?_
                    refine qskp (un rfl rfl rfl rfl (congrArg Value.bool hb257) nofun) rfl ?_
                    refine qskp (un rfl rfl rfl rfl (congrArg Value.bool hb257) nofun) rfl ?_
                    refine qstp (v := .bool true) (wn rfl rfl rfl rfl (congrArg Value.bool hb256)) rfl (fun w_ hb_ => (r_pickt rfl (congrArg Value.bool hb257) rfl)) ?_
                    refine qstp (v := .bool true) (wn rfl rfl rfl rfl (congrArg Value.bool hb255)) rfl (fun w_ hb_ => (r_pickt rfl (congrArg Value.bool hb256) rfl)) ?_
                    refine qstp (v := .bool true) rfl rfl (fun w_ hb_ => (r_pickf rfl (congrArg Value.bool hb255) rfl)) ?_
                    refine qfin (fun w hb => ?_)
                    replace B := B.quiet (Qt.of_below hb)
                    replace H := H.step (Nz.of_below hb)
                    exact n246 _ _ ⟨true, _, _, fr_self rfl, B, H⟩
                  · replace H := at_itef hb257 H
                    refine qstp (v := .pointer (some ⟨g245, 2, none⟩)) (wn rfl rfl rfl rfl (congrArg Value.bool hb257)) rfl (fun w_ hb_ => (r_fieldAddr (v1 := .pointer (some ⟨g245, 0, none⟩)) rfl rfl (fld70_2 _ _))) ?_
                    refine qstp (v := Sl.v x240_2) (wn rfl rfl rfl rfl (congrArg Value.bool hb257)) rfl (fun w_ hb_ => (r_load (v1 := .pointer (some ⟨g245, 2, none⟩)) rfl rfl (ld1 Try.underlying24 rfl (bx1 ((B.quiet (Qt.of_below hb_)).get 0 rfl) rfl rfl)))) ?_
                    refine qstp (v := .int .i64 (x240_2.n : Int)) (wn rfl rfl rfl rfl (congrArg Value.bool hb257)) rfl (fun w_ hb_ => (r_builtin (vs := [Sl.v x240_2]) rfl rfl (fun _ => lenl Try.underlying24))) ?_
                    refine qstp (v := .bool (decide (0 < (x240_2.n : Int)))) (wn rfl rfl rfl rfl (congrArg Value.bool hb257)) rfl (fun w_ hb_ => (r_gtr (a := (x240_2.n : Int)) (b := 0) rfl rfl rfl)) ?_
                    refine qstp (v := .bool (decide (0 < (x240_2.n : Int)))) (wn rfl rfl rfl rfl (congrArg Value.bool hb256)) rfl (fun w_ hb_ => (r_pickf rfl (congrArg Value.bool hb257) rfl)) ?_
                    refine qstp (v := .bool (decide (0 < (x240_2.n : Int)))) (wn rfl rfl rfl rfl (congrArg Value.bool hb255)) rfl (fun w_ hb_ => (r_pickt rfl (congrArg Value.bool hb256) rfl)) ?_
                    refine qstp (v := .bool (decide (0 < (x240_2.n : Int)))) rfl rfl (fun w_ hb_ => (r_pickf rfl (congrArg Value.bool hb255) rfl)) ?_
                    refine qfin (fun w hb => ?_)
                    replace B := B.quiet (Qt.of_below hb)
                    replace H := H.step (Nz.of_below hb)
                    exact n246 _ _ ⟨decide (0 < (x240_2.n : Int)), _, _, fr_self rfl, B, H⟩
                · replace H := at_itef hb256 H
                  refine qskp (un rfl rfl rfl rfl (congrArg Value.bool hb256) nofun) rfl ?_
                  refine qskp (un rfl rfl rfl rfl (congrArg Value.bool hb256) nofun) rfl ?_
                  refine qskp (un rfl rfl rfl rfl (congrArg Value.bool hb256) nofun) rfl ?_
                  refine qskp (un rfl rfl rfl rfl (congrArg Value.bool hb256) nofun) rfl ?_
                  refine qskp (un_undef rfl rfl rfl rfl rfl) rfl ?_
                  refine qskp (un_undef rfl rfl rfl rfl rfl) rfl ?_
                  refine qskp (un_undef rfl rfl rfl rfl rfl) rfl ?_
                  refine qskp (un_undef rfl rfl rfl rfl rfl) rfl ?_
                  refine qskp (un rfl rfl rfl rfl (congrArg Value.bool hb256) nofun) rfl ?_
                  refine qstp (v := .bool false) (wn rfl rfl rfl rfl (congrArg Value.bool hb255)) rfl (fun w_ hb_ => (r_pickf rfl (congrArg Value.bool hb256) rfl)) ?_
                  refine qstp (v := .bool false) rfl rfl (fun w_ hb_ => (r_pickf rfl (congrArg Value.bool hb255) rfl)) ?_
                  refine qfin (fun w hb => ?_)
                  replace B := B.quiet (Qt.of_below hb)
                  replace H := H.step (Nz.of_below hb)
                  exact n246 _ _ ⟨false, _, _, fr_self rfl, B, H⟩
            ·
              rintro _ w ⟨j6_118, g, N, rfl, B, H⟩
              refine c_cond (b := j6_118) rfl (fun hb258 => ?_) (fun hb258 => ?_)
              · replace H := at_itet hb258 H
                refine c_seq (fun Q261 n259 o260 => ?_)
                refine c_region ?_
                refine stp (v := .bool false) rfl rfl (r_assign rfl rfl) ?_
                refine fin ?_
                refine n259 _ _ ?_
                refine c_ret (o232 _ _ _ nofun (by simp) (o229 _ _ _ nofun (o218 _ _ _ nofun (o214 _ _ _ nofun (by simp) (o206 _ _ _ nofun ((done (vs := [.bool false]) (.tmp rfl .nil) rfl ⟨_, rfl, H.now⟩)))))))
              · replace H := at_itef hb258 H
                refine c_skip ?_
                refine n231 _ _ ?_
                refine n228 _ _ ?_
                refine c_region ?_
                refine stp (v := .int .i64 (IntKind.i64.wrap (s5_91 + 1))) rfl rfl (r_add (a := s5_91) (b := 1) rfl rfl rfl) ?_
                refine stp (v := .int .i64 (IntKind.i64.wrap (s5_91 + 1))) rfl rfl (r_move rfl rfl) ?_
                refine fin ?_
                exact nx217 (IntKind.i64.wrap (s5_91 + 1)) _ _ _ (B.sub (List.Sublist.cons _ (List.Sublist.refl _))) H rfl
          · replace H := at_itef hb227 H
            refine c_exit (o225 _ _ _ nofun (o218 _ _ _ nofun (x215 _ _ ?_)))
            refine n205 _ _ ?_
            refine c_seq (fun Q264 n262 o263 => ?_)
            refine c_region ?_
            refine stp (v := .bool true) rfl rfl (r_assign rfl rfl) ?_
            refine fin ?_
            refine n262 _ _ ?_
            refine c_ret ((done (vs := [.bool true]) (.tmp rfl .nil) rfl ⟨_, rfl, H.now⟩))

end Go.Proofs.Ytboccoihmginiaa

namespace Go.Proofs.Ytboccoihmginiaa
open Go.RowKit Go.Sol
set_option linter.unusedVariables false
set_option linter.unusedSimpArgs false

/-! ### cells -/
structure PC where
  n : Int
  l : ByteArray
  k : List Int
  deriving DecidableEq
abbrev GC := PC × Sl
def encC (g : GC) : List Value := [.int .i64 g.1.n, .string g.1.l, Sl.v g.2]
def cellsV : List GC → List Value
  | [] => []
  | g :: gs => .int .i64 g.1.n :: .string g.1.l :: Sl.v g.2 :: cellsV gs
@[simp] theorem cellsV_len (gs : List GC) : (cellsV gs).length = gs.length * 3 := by
  induction gs with
  | nil => rfl
  | cons g gs ih => simp only [cellsV, List.length_cons, ih]; omega
theorem cellsV_one (gs : List GC) : ∀ u ∈ cellsV gs, u.oneCell' = true := by
  induction gs with
  | nil => intro u h; simp [cellsV] at h
  | cons g gs ih =>
    intro u h
    simp only [cellsV, List.mem_cons] at h
    rcases h with rfl | rfl | rfl | h
    · rfl
    · rfl
    · rfl
    · exact ih u h
theorem cellsV_at {gs : List GC} {i : Nat} {g : GC} (h : gs[i]? = some g) : (cellsV gs)[i * 3]? = some (.int .i64 g.1.n) ∧ (cellsV gs)[i * 3 + 1]? = some (.string g.1.l) ∧ (cellsV gs)[i * 3 + 2]? = some (Sl.v g.2) := by
  induction gs generalizing i with
  | nil => simp at h
  | cons a gs ih =>
    cases i with
    | zero => simp at h; subst h; exact ⟨rfl, rfl, rfl⟩
    | succ i =>
      have := ih (i := i) (by simpa using h)
      simp only [cellsV]
      rw [show (i + 1) * 3 = i * 3 + 1 + 1 + 1 by omega]
      simpa using this
theorem cellsV_app (a b : List GC) : cellsV (a ++ b) = cellsV a ++ cellsV b := by
  induction a with
  | nil => rfl
  | cons g a ih => simp [cellsV, ih]
theorem cellsV_set0 {gs : List GC} {i : Nat} {g : GC} (h : gs[i]? = some g) (n : Int) : (cellsV gs).set (i * 3) (.int .i64 n) = cellsV (gs.set i ({ g.1 with n := n }, g.2)) := by
  induction gs generalizing i with
  | nil => simp at h
  | cons a gs ih =>
    cases i with
    | zero => simp at h; subst h; rfl
    | succ i =>
      rw [show (i + 1) * 3 = i * 3 + 1 + 1 + 1 by omega]
      simp only [cellsV, List.set_cons_succ]
      rw [ih (by simpa using h)]
theorem cellsV_set1 {gs : List GC} {i : Nat} {g : GC} (h : gs[i]? = some g) (l : ByteArray) : (cellsV gs).set (i * 3 + 1) (.string l) = cellsV (gs.set i ({ g.1 with l := l }, g.2)) := by
  induction gs generalizing i with
  | nil => simp at h
  | cons a gs ih =>
    cases i with
    | zero => simp at h; subst h; rfl
    | succ i =>
      rw [show (i + 1) * 3 + 1 = i * 3 + 1 + 1 + 1 + 1 by omega]
      simp only [cellsV, List.set_cons_succ]
      rw [ih (by simpa using h)]
theorem cellsV_set2 {gs : List GC} {i : Nat} {g : GC} (h : gs[i]? = some g) (s : Sl) (k : List Int) : (cellsV gs).set (i * 3 + 2) (Sl.v s) = cellsV (gs.set i ({ g.1 with k := k }, s)) := by
  induction gs generalizing i with
  | nil => simp at h
  | cons a gs ih =>
    cases i with
    | zero => simp at h; subst h; rfl
    | succ i =>
      rw [show (i + 1) * 3 + 2 = i * 3 + 1 + 1 + 1 + 1 + 1 by omega]
      simp only [cellsV, List.set_cons_succ]
      rw [ih (by simpa using h)]

/-- cells that are read -/
structure RC (w : World) (a : Sl) (gs : List GC) : Prop where
  hd : Rd w 3 a (cellsV gs)
  kd : ∀ g ∈ gs, Rd w 1 g.2 (ints g.1.k)
theorem RC.n {w : World} {a : Sl} {gs : List GC} (h : RC w a gs) : a.n = gs.length := by have := h.hd.1; simp at this; omega
theorem RC.below {w w' : World} {a : Sl} {gs : List GC} (h : RC w a gs) (hb : Below w.heap.size w w') : RC w' a gs := ⟨h.hd.below hb, fun g hg => (h.kd g hg).below hb⟩
theorem RC.st {w w' : World} {N : NP} {cs : List Ch} {a : Sl} {gs : List GC} (h : RC w a gs) (st : Stt w [] cs w' N) : RC w' a gs := h.below st.upd.below
theorem RC.at {w : World} {a : Sl} {gs : List GC} (h : RC w a gs) {i : Nat} (hi : i < gs.length) : ∃ ad, a.A = some ad ∧ w.cell? (ad.add (i * 3)) = some (.int .i64 gs[i].1.n) ∧ w.cell? ((ad.add (i * 3)).add 0) = some (.int .i64 gs[i].1.n) ∧
    w.cell? ((ad.add (i * 3)).add 1) = some (.string gs[i].1.l) ∧ w.cell? ((ad.add (i * 3)).add 2) = some (Sl.v gs[i].2) ∧ Rd w 1 gs[i].2 (ints gs[i].1.k) := by
  obtain ⟨ad, hA, hc⟩ := h.hd.addr (i := i) (by rw [h.n]; exact hi)
  have ha := cellsV_at (gs := gs) (i := i) (g := gs[i]) (by simp [hi])
  refine ⟨ad, hA, hc _ _ ha.1, ?_, ?_, ?_, h.kd _ (List.getElem_mem hi)⟩
  · rw [Addr.add_zero']; exact hc _ _ ha.1
  · rw [Addr.add_add]; exact hc _ _ ha.2.1
  · rw [Addr.add_add]; exact hc _ _ ha.2.2
/-- cells that are owned -/
def kidCh (gs : List GC) : List Ch := gs.map fun g => ⟨3, 1, g.2, ints g.1.k⟩
def cowCh (a : Sl) (gs : List GC) : List Ch := ⟨70, 3, a, cellsV gs⟩ :: kidCh gs
theorem Own_rc {w : World} {N : NP} {a : Sl} {gs : List GC} (o : Own w N (cowCh a gs)) : RC w a gs :=
  ⟨(o.ok _ (List.mem_cons_self)).rd, fun g hg => (o.ok ⟨3, 1, g.2, ints g.1.k⟩ (List.mem_cons_of_mem _ (List.mem_map.2 ⟨g, hg, rfl⟩))).rd⟩

/-! ### measures -/
theorem szCell_ok {w : World} {c : PC} {s : Sl} {k : Int} (hs : Rd w 1 s (ints c.k)) (h0 : 0 ≤ k) (h1 : k ≤ 1048576) (hl : c.l.size ≤ maxLen) :
    Calls Try.prog 59 #[.agg #[.int .i64 c.n, .string c.l, Sl.v s], .int .i64 k] w fun e w' => ∃ (y : Int) (cs1 : List Ch), e = .returned (.int .i64 y) ∧ ((0 ≤ y → y ≤ k ∧ c.k.length ≤ k) ∧ cs1 = []) ∧ Res w [] w' cs1 := by
  have hn : s.n = c.k.length := by simpa using hs.n1
  refine run_ok (fun R => f59_laws_szCell.ok R c.n c.l s k w) [] (Own.nil w NO) (.int .i64) (fun y cs1 => (0 ≤ y → y ≤ k ∧ c.k.length ≤ k) ∧ cs1 = []) fun R hR w1 N1 st => ?_
  unfold f59_laws_szCell.T
  rw [w64i (x := k - c.l.size) (by simp only [maxLen] at hl; omega) (by omega)]
  refine t_ite (fun h => ?_) (fun h => ?_)
  · exact hR (-1) _ _ _ _ st ⟨fun h => by omega, rfl⟩ rfl
  · have h2 : (c.l.size : Int) ≤ k := by simp at h; omega
    refine t_callp st (szIntS_ok (by omega) (by omega) hs.2.1) fun w2 N2 st => ?_
    refine t_ite (fun h => ?_) (fun h => ?_)
    · exact hR (-1) _ _ _ _ st ⟨fun h => by omega, rfl⟩ rfl
    · refine hR _ _ _ _ _ st ⟨fun h3 => ?_, rfl⟩ rfl
      split at h3 <;> rename_i h4
      · omega
      · rw [if_neg h4, ← hn]; omega

theorem szCellS_ok {w : World} {a : Sl} {gs : List GC} {k : Int} (ha : RC w a gs) (h0 : 0 ≤ k) (h1 : k ≤ 1048576) (hl : ∀ g ∈ gs, g.1.l.size ≤ maxLen) :
    Calls Try.prog 37 #[Sl.v a, .int .i64 k] w fun e w' => ∃ (y : Int) (cs1 : List Ch), e = .returned (.int .i64 y) ∧ ((0 ≤ y → y ≤ k ∧ gs.length ≤ k ∧ ∀ g ∈ gs, g.1.k.length ≤ k) ∧ cs1 = []) ∧ Res w [] w' cs1 := by
  have hn := ha.n
  have hm := ha.hd.2.1
  refine run_ok (fun R => f37_laws_szCellS.ok R a k w) [] (Own.nil w NO) (.int .i64) (fun y cs1 => (0 ≤ y → y ≤ k ∧ gs.length ≤ k ∧ ∀ g ∈ gs, g.1.k.length ≤ k) ∧ cs1 = []) fun R hR w1 N1 st => ?_
  unfold f37_laws_szCellS.T
  rw [w64i (x := k - a.n) (by simp only [maxLen] at hm; omega) (by omega)]
  refine t_ite (fun h => ?_) (fun h => ?_)
  · exact hR (-1) _ _ _ _ st ⟨fun h => by omega, rfl⟩ rfl
  · have hk : (a.n : Int) ≤ k := by simp at h; omega
    refine t_loop (fun (i : Nat) (s : Int × Int) => s.2 = (i : Int) ∧ i ≤ gs.length ∧ 0 ≤ s.1 ∧ s.1 ≤ k ∧ ∀ g ∈ gs.take i, g.1.k.length ≤ k) (fun _ _ => []) (fun i _ => gs.length - i) 0 st ⟨rfl, Nat.zero_le _, by simp only; omega, by simp only; omega, by simp⟩ ?_
    rintro i ⟨m, j⟩ w2 N2 next ⟨hj, hi, hm0, hmk, hall⟩ st hn2
    simp only at hj hm0 hmk
    subst hj
    show f37_laws_szCellS.L1 R a m (i : Int) _ w2 N2
    unfold f37_laws_szCellS.L1
    refine t_ite (fun h2 => ?_) (fun h2 => ?_)
    · have hil : i < gs.length := by simp [hn] at h2; exact h2
      obtain ⟨ad, hA, _, c0, c1, c2, hrd⟩ := ha.at hil
      refine t_idx' (i * 3) hA (by omega) (by omega) (by simp) ?_
      refine t_ldc st (fun w' N' s => s.old0 c0) fun w2 N2 st => ?_
      refine t_ldc st (fun w' N' s => s.old0 c1) fun w2 N2 st => ?_
      refine t_ldc st (fun w' N' s => s.old0 c2) fun w2 N2 st => ?_
      refine t_call (cs := []) (rest := []) st (fun _ => szCell_ok (st.rd0 hrd) hm0 (by omega) (hl _ (List.getElem_mem hil))) fun y cs1 w2 N2 hp st => ?_
      obtain ⟨hp, rfl⟩ := hp
      refine t_ite (fun h3 => ?_) (fun h3 => ?_)
      · exact hR (-1) _ _ _ _ st ⟨fun h => by omega, rfl⟩ rfl
      · have hy : 0 ≤ y := by simpa using h3
        show next _ _ _
        rw [w64s (by omega)]
        refine hn2 (i + 1) _ _ _ ⟨rfl, hil, hy, by have := (hp hy).1; simp only; omega, ?_⟩ (by omega) st
        intro g hg
        rw [List.take_succ_eq_append_getElem hil] at hg
        rcases List.mem_append.1 hg with hg | hg
        · exact hall g hg
        · simp at hg; subst hg; have := (hp hy).2; omega
    · have hil : i = gs.length := by simp [hn] at h2; omega
      subst hil
      refine hR _ _ _ _ _ st ⟨fun _ => ⟨hmk, by omega, ?_⟩, rfl⟩ rfl
      simpa using hall

/-! ### copies -/
theorem toCell_ok {w : World} {c : PC} {s : Sl} (hs : Rd w 1 s (ints c.k)) (hl : c.k.length ≤ 1048576) :
    Calls Try.prog 60 #[.agg #[.int .i64 c.n, .string c.l, Sl.v s]] w fun e w' => ∃ (y : Int × ByteArray × Sl) (cs1 : List Ch), e = .returned (.agg #[.int .i64 y.1, .string y.2.1, Sl.v y.2.2]) ∧ ((y.1 = c.n ∧ y.2.1 = c.l) ∧ cs1 = [⟨3, 1, y.2.2, ints c.k⟩]) ∧ Res w [] w' cs1 := by
  refine run_ok (fun R => f60_laws_toCell.ok R c.n c.l s w) [] (Own.nil w NO) (fun (y : Int × ByteArray × Sl) => .agg #[.int .i64 y.1, .string y.2.1, Sl.v y.2.2]) (fun y cs1 => (y.1 = c.n ∧ y.2.1 = c.l) ∧ cs1 = [⟨3, 1, y.2.2, ints c.k⟩]) fun R hR w1 N1 st => ?_
  unfold f60_laws_toCell.T
  refine t_call (cs := []) (rest := []) st (fun _ => toIntS_ok (st.rd0 hs) hl) fun y cs1 w2 N2 hp st => ?_
  obtain ⟨_, rfl⟩ := hp
  exact hR (c.n, c.l, y) _ _ _ _ st ⟨⟨rfl, rfl⟩, rfl⟩ rfl

def zeroG : GC := (⟨0, ⟨#[]⟩, []⟩, Sl.nil)
theorem made23 (n : Nat) : (madeCells (Value.agg #[.int .i64 0, .string ⟨#[]⟩, .slice none 0 0]).cells (n * 3)).toList = cellsV (List.replicate n zeroG) := by
  apply List.ext_getElem?
  intro j
  have hs : (madeCells (Value.agg #[.int .i64 0, .string ⟨#[]⟩, .slice none 0 0]).cells (n * 3)).toList.length = n * 3 := by rw [Array.length_toList, size_madeCells]
  by_cases hj : j < n * 3
  · have hr : (List.replicate n zeroG)[j / 3]? = some zeroG := by rw [List.getElem?_replicate, if_pos (by omega)]
    obtain ⟨h0, h1, h2⟩ := cellsV_at hr
    have hm : (madeCells (Value.agg #[.int .i64 0, .string ⟨#[]⟩, .slice none 0 0]).cells (n * 3)).toList[j]? = (#[Value.int .i64 0, .string ⟨#[]⟩, .slice none 0 0] : Array Value)[j % 3]? := by
      rw [Array.getElem?_toList]
      simp [madeCells, Value.cells, hj]
      have h3 : j % 3 < 3 := Nat.mod_lt _ (by omega)
      rw [List.getElem?_eq_getElem (by simpa using h3)]
      rfl
    rw [hm]
    have hd := Nat.div_add_mod j 3
    have hlt := Nat.mod_lt j (show 0 < 3 by omega)
    rcases (show j % 3 = 0 ∨ j % 3 = 1 ∨ j % 3 = 2 by omega) with h | h | h
    · rw [h]; rw [show j = j / 3 * 3 by omega, h0]; rfl
    · rw [h]; rw [show j = j / 3 * 3 + 1 by omega, h1]; rfl
    · rw [h]; rw [show j = j / 3 * 3 + 2 by omega, h2]; rfl
  · rw [List.getElem?_eq_none (by omega), List.getElem?_eq_none (by simp; omega)]

/-- what has been copied: i cells, the others zero -/
theorem toCellS_ok {w : World} {a : Sl} {gs : List GC} (ha : RC w a gs) (hl : gs.length ≤ 1048576) (hk : ∀ g ∈ gs, g.1.k.length ≤ 1048576) :
    Calls Try.prog 39 #[Sl.v a] w fun e w' => ∃ (y : Sl) (cs1 : List Ch), e = .returned (Sl.v y) ∧ (∃ gs', gs'.map (·.1) = gs.map (·.1) ∧ cs1 = cowCh y gs') ∧ Res w [] w' cs1 := by
  have hna := ha.n
  refine run_ok (fun R => f39_laws_toCellS.ok R a w) [] (Own.nil w NO) Sl.v (fun y cs1 => ∃ gs', gs'.map (·.1) = gs.map (·.1) ∧ cs1 = cowCh y gs') fun R hR w1 N1 st => ?_
  unfold f39_laws_toCellS.T
  refine t_make τ23 st (by omega) (by omega) fun y w2 N2 hy st => ?_
  have hyn : y.n = gs.length := by rw [hy, hna]; simp
  rw [Int.toNat_natCast, made23, hna] at st
  refine t_loop (fun (g : List GC) (s : Int) => s = (g.length : Int) ∧ g.length ≤ gs.length ∧ g.map (·.1) = (gs.take g.length).map (·.1)) (fun g _ => ⟨70, 3, y, cellsV (g ++ List.replicate (gs.length - g.length) zeroG)⟩ :: kidCh g) (fun g _ => gs.length - g.length) [] (by simpa [kidCh] using st) ⟨rfl, Nat.zero_le _, by simp⟩ ?_
  rintro g s w2 N2 next ⟨rfl, hi, he⟩ st hn
  show f39_laws_toCellS.L1 R a y (g.length : Int) _ w2 N2
  unfold f39_laws_toCellS.L1
  refine t_ite (fun h1 => ?_) (fun h1 => ?_)
  · have hil : g.length < gs.length := by simp [hna] at h1; exact h1
    obtain ⟨ad, hA, _, c0, c1, c2, hrd⟩ := ha.at hil
    refine t_idx' (g.length * 3) hA (by omega) (by omega) (by simp) ?_
    refine t_ldc st (fun w' N' s => s.old0 c0) fun w2 N2 st => ?_
    refine t_ldc st (fun w' N' s => s.old0 c1) fun w2 N2 st => ?_
    refine t_ldc st (fun w' N' s => s.old0 c2) fun w2 N2 st => ?_
    refine t_call (cs := []) st (fun _ => toCell_ok (st.rd0 hrd) (hk _ (List.getElem_mem hil))) fun r cs1 w2 N2 hp st => ?_
    obtain ⟨⟨e1, e2⟩, rfl⟩ := hp
    obtain ⟨r1, r2, r3⟩ := r
    simp only at e1 e2 st ⊢
    subst e1 e2
    have hz : (g ++ List.replicate (gs.length - g.length) zeroG)[g.length]? = some zeroG := by
      rw [List.getElem?_append_right (Nat.le_refl _), List.getElem?_replicate, if_pos (by omega)]
    have hc1 := (st.ch (i := 1) rfl)
    obtain ⟨yd, hY, _⟩ := hc1.rd.addr (i := g.length) (by simp only; omega)
    refine t_idx' (g.length * 3) hY (by omega) (by omega) (by simp) ?_
    have hlen : g.length * 3 + 2 < (cellsV (g ++ List.replicate (gs.length - g.length) zeroG)).length := by simp; omega
    refine t_stc (i := 1) (j := g.length * 3) st rfl hY (by simp only; omega) (by rw [Addr.add_zero']) fun w2 N2 st => ?_
    refine t_stc (i := 1) (j := g.length * 3 + 1) st rfl hY (by simp only [List.length_set]; omega) (by rw [Addr.add_add]) fun w2 N2 st => ?_
    refine t_stc (i := 1) (j := g.length * 3 + 2) st rfl hY (by simp only [List.length_set]; omega) (by rw [Addr.add_add]) fun w2 N2 st => ?_
    simp only at st
    rw [cellsV_set0 hz] at st
    have hl2 : g.length < (g ++ List.replicate (gs.length - g.length) zeroG).length := by rw [List.length_append, List.length_replicate]; omega
    rw [cellsV_set1 (g := ({ zeroG.1 with n := gs[g.length].1.n }, zeroG.2)) (List.getElem?_set_self hl2), cellsV_set2 (k := gs[g.length].1.k) (g := ({ zeroG.1 with n := gs[g.length].1.n, l := gs[g.length].1.l }, zeroG.2)) (List.getElem?_set_self (by rw [List.length_set]; exact hl2))] at st
    show next _ _ _
    have hlt : g.length < maxLen := by simp only [maxLen]; omega
    rw [w64s hlt]
    refine hn (g ++ [(gs[g.length].1, r3)]) _ _ _ ⟨by simp, by simp; omega, ?_⟩ (by simp; omega) (st.perm ?_)
    · rw [List.length_append, List.length_singleton, List.take_succ_eq_append_getElem hil, List.map_append, List.map_append, he]; rfl
    · have e1 : (((g ++ List.replicate (gs.length - g.length) zeroG).set g.length ({ zeroG.1 with n := gs[g.length].1.n }, zeroG.2)).set g.length ({ zeroG.1 with n := gs[g.length].1.n, l := gs[g.length].1.l }, zeroG.2)).set g.length ({ zeroG.1 with n := gs[g.length].1.n, l := gs[g.length].1.l, k := gs[g.length].1.k }, r3) =
          g ++ [(gs[g.length].1, r3)] ++ List.replicate (gs.length - (g ++ [(gs[g.length].1, r3)]).length) zeroG := by
        rw [List.set_set, List.set_set]
        obtain ⟨m, hm⟩ : ∃ m, gs.length - g.length = m + 1 := ⟨gs.length - g.length - 1, by omega⟩
        rw [hm, List.set_append_right _ _ (Nat.le_refl _), Nat.sub_self, List.replicate_succ, List.set_cons_zero, List.append_assoc]
        congr 1
        rw [show gs.length - (g ++ [(gs[g.length].1, r3)]).length = m by simp; omega]
        rfl
      simp only [List.set_cons_succ, List.set_cons_zero, List.cons_append, List.nil_append]
      rw [e1]
      simp only [kidCh, List.map_append, List.map_cons, List.map_nil]
      exact (List.Perm.cons _ (List.perm_append_singleton _ _)).trans (List.Perm.swap _ _ _)
  · have hil : g.length = gs.length := by simp [hna] at h1; omega
    refine hR y _ _ _ _ st ⟨g, by rw [he, hil, List.take_length], ?_⟩ rfl
    rw [hil]; simp [cowCh]
end Go.Proofs.Ytboccoihmginiaa

namespace Go.Proofs.Ytboccoihmginiaa
open Go.RowKit Go.Sol
set_option linter.unusedVariables false
set_option linter.unusedSimpArgs false

theorem eqCell_ok {w : World} {c d : PC} {s t : Sl} (hs : Rd w 1 s (ints c.k)) (ht : Rd w 1 t (ints d.k)) :
    Calls Try.prog 61 #[.agg #[.int .i64 c.n, .string c.l, Sl.v s], .agg #[.int .i64 d.n, .string d.l, Sl.v t]] w fun e w' => e = .returned (.bool (decide (c = d))) ∧ Below w.heap.size w w' := by
  obtain ⟨cn, cl, ck⟩ := c
  obtain ⟨dn, dl, dk⟩ := d
  refine run_pure (fun R => f61_laws_eqCell.ok R cn cl s dn dl t w) fun R hR w1 N1 st => ?_
  unfold f61_laws_eqCell.T
  simp only at hs ht
  refine t_ite (fun h => ?_) (fun h => ?_)
  · exact hR _ _ _ _ st (by simp at h; simp [h])
  refine t_ite (fun h2 => ?_) (fun h2 => ?_)
  · rw [bytes_beq] at h2
    exact hR _ _ _ _ st (by simp at h2; simp [h2])
  refine t_callp st (eqIntS_ok (st.rd0 hs) (st.rd0 ht)) fun w2 N2 st => ?_
  simp at h
  rw [bytes_beq] at h2
  simp at h2
  subst h h2
  refine t_ite (fun h3 => ?_) (fun h3 => ?_)
  · exact hR _ _ _ _ st (by simp at h3; simp [h3])
  · exact hR _ _ _ _ st (by simp at h3; simp [h3])

theorem eqCellS_ok {w : World} {a b : Sl} {gs hs : List GC} (ha : RC w a gs) (hb : RC w b hs) :
    Calls Try.prog 41 #[Sl.v a, Sl.v b] w fun e w' => e = .returned (.bool (decide (gs.map (·.1) = hs.map (·.1)))) ∧ Below w.heap.size w w' := by
  have hna := ha.n
  have hnb := hb.n
  refine run_pure (fun R => f41_laws_eqCellS.ok R a b w) fun R hR w1 N1 st => ?_
  unfold f41_laws_eqCellS.T
  refine t_ite (fun h => ?_) (fun h => ?_)
  · have : gs.map (·.1) ≠ hs.map (·.1) := fun e => by have := congrArg List.length e; simp [hna, hnb] at h this; omega
    exact hR _ _ _ _ st (by simp [this])
  · have hl : gs.length = hs.length := by simp [hna, hnb] at h; omega
    refine t_loop (fun (i : Nat) (s : Int) => s = (i : Int) ∧ i ≤ gs.length ∧ (gs.take i).map (·.1) = (hs.take i).map (·.1)) (fun _ _ => []) (fun i _ => gs.length - i) 0 st ⟨rfl, Nat.zero_le _, by simp⟩ ?_
    rintro i s w2 N2 next ⟨rfl, hi, he⟩ st hn
    show f41_laws_eqCellS.L1 R a b (i : Int) _ w2 N2
    unfold f41_laws_eqCellS.L1
    refine t_ite (fun h1 => ?_) (fun h1 => ?_)
    · have hil : i < gs.length := by simp [hna] at h1; exact h1
      have hil2 : i < hs.length := by omega
      obtain ⟨ad, hA, _, c0, c1, c2, hrd⟩ := ha.at hil
      obtain ⟨bd, hB, _, d0, d1, d2, hrd2⟩ := hb.at hil2
      refine t_idx' (i * 3) hA (by omega) (by omega) (by simp) ?_
      refine t_ldc st (fun w' N' s => s.old0 c0) fun w2 N2 st => ?_
      refine t_ldc st (fun w' N' s => s.old0 c1) fun w2 N2 st => ?_
      refine t_ldc st (fun w' N' s => s.old0 c2) fun w2 N2 st => ?_
      refine t_idx' (i * 3) hB (by omega) (by omega) (by simp) ?_
      refine t_ldc st (fun w' N' s => s.old0 d0) fun w2 N2 st => ?_
      refine t_ldc st (fun w' N' s => s.old0 d1) fun w2 N2 st => ?_
      refine t_ldc st (fun w' N' s => s.old0 d2) fun w2 N2 st => ?_
      refine t_callq st (fun w' N' s => eqCell_ok (s.rd0 hrd) (s.rd0 hrd2)) fun w2 N2 st => ?_
      refine t_ite (fun h2 => ?_) (fun h2 => ?_)
      · have : gs.map (·.1) ≠ hs.map (·.1) := fun e => by
          have := congrArg (fun l => l[i]?) e
          simp [hil, hil2] at this
          simp [this] at h2
        exact hR _ _ _ _ st (by simp [this])
      · have hlt : i < maxLen := by have := ha.hd.2.1; omega
        show next _ _ _
        rw [w64s hlt]
        refine hn (i + 1) _ _ _ ⟨rfl, hil, ?_⟩ (by omega) st
        have : gs[i].1 = hs[i].1 := by simpa using h2
        rw [List.take_succ_eq_append_getElem hil, List.take_succ_eq_append_getElem hil2, List.map_append, List.map_append, he]
        simp [this]
    · have hil : i = gs.length := by simp [hna] at h1; omega
      have : gs.map (·.1) = hs.map (·.1) := by rw [hil, List.take_length, hl, List.take_length] at he; exact he
      exact hR _ _ _ _ st (by simp [this])

/-! ### texts of marks -/
def markL (m : Nat) (acc : ByteArray) : ByteArray := if h : m = 0 then acc else markL (m / 10) (⟨#[UInt8.ofNat (48 + m % 10)]⟩ ++ acc)
termination_by m
decreasing_by omega
def markT (k : Nat) : ByteArray := if k = 0 then ⟨#[109, 48]⟩ else ⟨#[109]⟩ ++ markL k ⟨#[]⟩
theorem markText_ok {w : World} {k : Nat} (hk : k ≤ 4611686018427387904) :
    Calls Try.prog 62 #[.int .i64 k] w fun e w' => ∃ (y : ByteArray) (cs1 : List Ch), e = .returned (.string y) ∧ (y = markT k ∧ cs1 = []) ∧ Res w [] w' cs1 := by
  refine run_ok (fun R => f62_laws_markText.ok R k w) [] (Own.nil w NO) Value.string (fun y cs1 => y = markT k ∧ cs1 = []) fun R hR w1 N1 st => ?_
  unfold f62_laws_markText.T
  refine t_ite (fun h => ?_) (fun h => ?_)
  · have : k = 0 := by simp at h; omega
    exact hR _ _ _ _ _ st ⟨by simp [markT, this], rfl⟩ rfl
  have hk0 : k ≠ 0 := fun e => by simp [e] at h
  refine t_loop (fun (m : Nat) (s : Int × ByteArray) => s.1 = (m : Int) ∧ markL m s.2 = markL k ⟨#[]⟩ ∧ 2 ^ s.2.size * m ≤ 4611686018427387904 ∧ s.2.size ≤ 63) (fun _ _ => []) (fun m _ => m) k st ⟨rfl, rfl, (show 2 ^ 0 * k ≤ _ by omega), Nat.zero_le _⟩ ?_
  rintro m ⟨j, acc⟩ w2 N2 next ⟨hj, he, hb, hb2⟩ st hn
  simp only at hj he hb hb2
  subst hj
  show f62_laws_markText.L1 R (m : Int) acc _ w2 N2
  unfold f62_laws_markText.L1
  refine t_ite (fun h2 => ?_) (fun h2 => ?_)
  · have hm : 0 < m := by simpa using h2
    have hmb : m ≤ 4611686018427387904 := Nat.le_trans (Nat.le_mul_of_pos_left _ (Nat.two_pow_pos _)) hb
    refine t_new 1 1 rfl (by decide) st fun g w2 N2 st => ?_
    have hv : IntKind.u8.wrap (IntKind.i64.wrap (48 + (m : Int).tmod 10)) = (((UInt8.ofNat (48 + m % 10)).toNat : Nat) : Int) := by
      have h1 : (m : Int).tmod 10 = ((m % 10 : Nat) : Int) := by rw [Int.tmod_eq_emod_of_nonneg (by omega)]; omega
      have h3 : m % 10 < 10 := Nat.mod_lt _ (by omega)
      rw [h1, w64i (by omega) (by omega)]
      simp only [IntKind.wrap, IntKind.bits, IntKind.signed, UInt8.toNat_ofNat']
      simp
    rw [hv] at st
    have hA : ∀ j (hj : j < [UInt8.ofNat (48 + m % 10)].length), w2.cell? ((⟨g, 0, none⟩ : Addr).add j) = some (.int .u8 ([UInt8.ofNat (48 + m % 10)][j].toNat : Int)) := fun j hj => by
      have : j = 0 := by simp at hj; omega
      subst this
      exact st.cell (i := 0) rfl rfl rfl
    refine t_runp (x := ⟨#[UInt8.ofNat (48 + m % 10)]⟩) st (run_convert_bytes_back w2 22 9 5 ⟨g, 0, none⟩ 1 [UInt8.ofNat (48 + m % 10)] Try.underlying22 (by kernel_rfl) Try.underlying9 hA) fun w2 N2 st => ?_
    have hsz : (⟨#[UInt8.ofNat (48 + m % 10)]⟩ ++ acc : ByteArray).size = acc.size + 1 := by
      rw [ByteArray.size_append]
      show 1 + _ = _
      omega
    refine t_ass ?_ ?_
    · show 1 + _ ≤ _
      omega
    · show next _ _ _
      have h10 : (m : Int).tdiv 10 = ((m / 10 : Nat) : Int) := by rw [Int.tdiv_eq_ediv_of_nonneg (by omega)]; omega
      rw [h10, w64i (by omega) (by omega)]
      have hp : 2 ^ (acc.size + 1) * (m / 10) ≤ 2 ^ acc.size * m := by
        rw [Nat.pow_succ, Nat.mul_assoc]
        exact Nat.mul_le_mul_left _ (by omega)
      have hp2 : 2 ^ acc.size ≤ 4611686018427387904 := Nat.le_trans (Nat.le_mul_of_pos_right _ hm) hb
      refine hn (m / 10) _ _ _ ⟨rfl, ?_, ?_, ?_⟩ (by omega) (st.sub (List.nil_sublist _))
      · rw [← he]
        conv => rhs; rw [markL]
        rw [dif_neg (by omega)]
      · simp only; rw [hsz]; omega
      · simp only; rw [hsz]
        rcases Nat.lt_or_ge acc.size 63 with h | h
        · omega
        · have : 2 ^ 63 ≤ 2 ^ acc.size := Nat.pow_le_pow_right (by omega) h
          omega
  · have hm : m = 0 := by simp at h2; omega
    subst hm
    refine t_ass ?_ ?_
    · show 1 + _ ≤ _
      omega
    · refine hR _ _ _ _ _ st ⟨?_, rfl⟩ rfl
      rw [markL] at he
      simp at he
      rw [he, markT, if_neg hk0]
end Go.Proofs.Ytboccoihmginiaa

namespace Go.Proofs.Ytboccoihmginiaa
open Go.RowKit Go.Sol
set_option linter.unusedVariables false
set_option linter.unusedSimpArgs false

section
variable {w0 w : World} {cs0 rest : List Ch} {N : NP} {a : Sl} {gs : List GC} {i : Nat} {g : GC} {ad : Addr}
theorem cow_rc (st : Stt w0 cs0 (cowCh a gs ++ rest) w N) : RC w a gs := Own_rc st.own.left
theorem cow_ad (st : Stt w0 cs0 (cowCh a gs ++ rest) w N) (hi : i < gs.length) : ∃ ad, a.A = some ad ∧ (i : Int) < a.n := by
  obtain ⟨ad, hA, _⟩ := (cow_rc st).at hi
  exact ⟨ad, hA, by rw [(cow_rc st).n]; omega⟩
theorem cow_c0 (st : Stt w0 cs0 (cowCh a gs ++ rest) w N) (hA : a.A = some ad) (hg : gs[i]? = some g) : w.cell? ((ad.add (i * 3)).add 0) = some (.int .i64 g.1.n) := by
  rw [Addr.add_add]
  exact st.cell (i := 0) (c := ⟨70, 3, a, cellsV gs⟩) rfl hA (cellsV_at hg).1
theorem cow_c1 (st : Stt w0 cs0 (cowCh a gs ++ rest) w N) (hA : a.A = some ad) (hg : gs[i]? = some g) : w.cell? ((ad.add (i * 3)).add 1) = some (.string g.1.l) := by
  rw [Addr.add_add]
  exact st.cell (i := 0) (c := ⟨70, 3, a, cellsV gs⟩) rfl hA (cellsV_at hg).2.1
theorem cow_c2 (st : Stt w0 cs0 (cowCh a gs ++ rest) w N) (hA : a.A = some ad) (hg : gs[i]? = some g) : w.cell? ((ad.add (i * 3)).add 2) = some (Sl.v g.2) := by
  rw [Addr.add_add]
  exact st.cell (i := 0) (c := ⟨70, 3, a, cellsV gs⟩) rfl hA (cellsV_at hg).2.2
theorem kidCh_set {g' : GC} (hg : gs[i]? = some g) (h2 : g'.2 = g.2) (hk : g'.1.k = g.1.k) : kidCh (gs.set i g') = kidCh gs := by
  unfold kidCh
  rw [List.map_set]
  apply List.ext_getElem?
  intro j
  by_cases hj : i = j
  · subst hj
    have hil : i < gs.length := (List.getElem?_eq_some_iff.1 hg).1
    rw [List.getElem?_set_self (by simpa using hil), List.getElem?_map, hg]
    simp [h2, hk]
  · rw [List.getElem?_set_ne hj]
theorem t_c0 {n : Int} {K : Tm} (st : Stt w0 cs0 (cowCh a gs ++ rest) w N) (hA : a.A = some ad) (hg : gs[i]? = some g) (k1 : ∀ w' N', Stt w0 cs0 (cowCh a (gs.set i ({ g.1 with n := n }, g.2)) ++ rest) w' N' → K w' N') :
    T.stc ((ad.add (i * 3)).add 0) (.int .i64 n) K w N := by
  have hil : i < gs.length := (List.getElem?_eq_some_iff.1 hg).1
  refine t_stc (i := 0) (j := i * 3) (c := ⟨70, 3, a, cellsV gs⟩) st rfl hA (by simp; omega) (by rw [Addr.add_zero']) fun w' N' st => k1 w' N' (st.eq ?_)
  simp only [cowCh, List.cons_append, List.set_cons_zero]
  rw [cellsV_set0 hg, kidCh_set (g' := ({ g.1 with n := n }, g.2)) hg rfl rfl]
theorem t_c1 {l : ByteArray} {K : Tm} (st : Stt w0 cs0 (cowCh a gs ++ rest) w N) (hA : a.A = some ad) (hg : gs[i]? = some g) (k1 : ∀ w' N', Stt w0 cs0 (cowCh a (gs.set i ({ g.1 with l := l }, g.2)) ++ rest) w' N' → K w' N') :
    T.stc ((ad.add (i * 3)).add 1) (.string l) K w N := by
  have hil : i < gs.length := (List.getElem?_eq_some_iff.1 hg).1
  refine t_stc (i := 0) (j := i * 3 + 1) (c := ⟨70, 3, a, cellsV gs⟩) st rfl hA (by simp; omega) (by rw [Addr.add_add]) fun w' N' st => k1 w' N' (st.eq ?_)
  simp only [cowCh, List.cons_append, List.set_cons_zero]
  rw [cellsV_set1 hg, kidCh_set (g' := ({ g.1 with l := l }, g.2)) hg rfl rfl]
/-- the kids' header turned; the elder kids stay behind as a row -/
theorem t_c2 {s : Sl} {k : List Int} {K : Tm} (st : Stt w0 cs0 (cowCh a gs ++ rest) w N) (hA : a.A = some ad) (hg : gs[i]? = some g) (k1 : ∀ w' N', Stt w0 cs0 (⟨70, 3, a, cellsV (gs.set i ({ g.1 with k := k }, s))⟩ :: kidCh gs ++ rest) w' N' → K w' N') :
    T.stc ((ad.add (i * 3)).add 2) (Sl.v s) K w N := by
  have hil : i < gs.length := (List.getElem?_eq_some_iff.1 hg).1
  refine t_stc (i := 0) (j := i * 3 + 2) (c := ⟨70, 3, a, cellsV gs⟩) st rfl hA (by simp; omega) (by rw [Addr.add_add]) fun w' N' st => k1 w' N' (st.eq ?_)
  simp only [cowCh, List.cons_append, List.set_cons_zero]
  rw [cellsV_set2 (k := k) hg]
theorem kid_mid (D T : List GC) (g : GC) : (kidCh (D ++ g :: T)).Perm (⟨3, 1, g.2, ints g.1.k⟩ :: (kidCh (D ++ T))) := by
  unfold kidCh
  rw [List.map_append, List.map_append, List.map_cons]
  exact List.perm_middle
theorem set_mid (D T : List GC) (g g' : GC) : (D ++ g :: T).set D.length g' = D ++ g' :: T := by
  rw [List.set_append_right _ _ (Nat.le_refl _), Nat.sub_self, List.set_cons_zero]
theorem at_mid (D T : List GC) (g : GC) : (D ++ g :: T)[D.length]? = some g := by
  rw [List.getElem?_append_right (Nat.le_refl _), Nat.sub_self]; rfl
end

/-! ### marks -/
def markC (k : Nat) : List GC → List GC
  | [] => []
  | g :: gs => (⟨k, markT (k + 1), seqI ((k + 2 : Nat) : Int) g.2.n⟩, g.2) :: markC (k + 2 + g.2.n) gs
def markEnd (k : Nat) : List GC → Nat
  | [] => k
  | g :: gs => markEnd (k + 2 + g.2.n) gs
theorem markEnd_ge (k : Nat) (gs : List GC) : k + 2 * gs.length ≤ markEnd k gs := by
  induction gs generalizing k with
  | nil => simp [markEnd]
  | cons g gs ih => have := ih (k + 2 + g.2.n); simp only [markEnd, List.length_cons]; omega
theorem markC_len (k : Nat) (gs : List GC) : (markC k gs).length = gs.length := by
  induction gs generalizing k with
  | nil => rfl
  | cons g gs ih => simp [markC, ih]

theorem markCellS_ok {w : World} {a : Sl} {gs : List GC} {k : Nat} (o : Own w NO (cowCh a gs)) (hb : markEnd k gs ≤ 2305843009213693952) :
    Calls Try.prog 43 #[Sl.v a, .int .i64 k] w fun e w' => ∃ (y : Int) (cs1 : List Ch), e = .returned (.int .i64 y) ∧ (y = markEnd k gs ∧ cs1 = cowCh a (markC k gs)) ∧ Res w (cowCh a gs) w' cs1 := by
  have hn := (Own_rc o).n
  have hge := markEnd_ge k gs
  refine run_ok (fun R => f43_laws_markCellS.ok R a k w) _ o (.int .i64) (fun y cs1 => y = markEnd k gs ∧ cs1 = cowCh a (markC k gs)) fun R hR w1 N1 st => ?_
  unfold f43_laws_markCellS.T
  refine t_loop (fun (p : Nat × List GC × List GC) (s : Int × Int) => s = ((p.1 : Int), (p.2.1.length : Int)) ∧ p.2.1 ++ markC p.1 p.2.2 = markC k gs ∧ markEnd p.1 p.2.2 = markEnd k gs ∧ p.2.1.length + p.2.2.length = gs.length) (fun p _ => cowCh a (p.2.1 ++ p.2.2) ++ []) (fun p _ => p.2.2.length) (k, [], gs) (st.eq (by simp)) ⟨rfl, rfl, rfl, by simp⟩ ?_
  rintro ⟨m, D, T⟩ s w2 N2 next ⟨rfl, he, hend, hlen⟩ st hn2
  simp only at he hend hlen st hn2 ⊢
  have hge2 := markEnd_ge m T
  show f43_laws_markCellS.L1 R a (m : Int) (D.length : Int) _ w2 N2
  unfold f43_laws_markCellS.L1
  refine t_ite (fun h2 => ?_) (fun h2 => ?_)
  · have hil : D.length < gs.length := by simp [hn] at h2; exact h2
    obtain ⟨g, T, rfl⟩ : ∃ g T', T = g :: T' := by
      cases T with
      | nil => simp at hlen; omega
      | cons g T => exact ⟨g, T, rfl⟩
    have hge3 := markEnd_ge (m + 2 + g.2.n) T
    simp only [markC, markEnd, List.length_cons] at he hend hlen hge2
    obtain ⟨ad, hA, hlt⟩ := cow_ad st (i := D.length) (by simp)
    refine t_idx' (D.length * 3) hA (by omega) hlt (by simp) ?_
    refine t_c0 st hA (at_mid D T g) fun w2 N2 st => ?_
    rw [set_mid] at st
    rw [w64i (x := (m : Int) + 1) (by omega) (by omega)]
    refine t_call (cs := []) (Post := fun (y : ByteArray) cs1 => y = markT (m + 1) ∧ cs1 = []) st (fun _ => markText_ok (k := m + 1) (by omega)) fun y cs1 w2 N2 hp st => ?_
    obtain ⟨rfl, rfl⟩ := hp
    refine t_idx' (D.length * 3) hA (by omega) hlt (by simp) ?_
    refine t_c1 st hA (at_mid D T _) fun w2 N2 st => ?_
    rw [set_mid] at st
    replace st : Stt w _ (cowCh a (D ++ (((⟨m, markT (m + 1), g.1.k⟩ : PC), g.2) : GC) :: T) ++ []) w2 N2 := st
    refine t_idx' (D.length * 3) hA (by omega) hlt (by simp) ?_
    refine t_ldc (x := g.2) st (fun w' N' s => cow_c2 (g := ((⟨m, markT (m + 1), g.1.k⟩ : PC), g.2)) s hA (at_mid D T _)) fun w2 N2 st => ?_
    rw [w64i (x := (m : Int) + 1 + 1) (by omega) (by omega)]
    refine t_call (cs := [⟨3, 1, g.2, ints g.1.k⟩]) (rest := ⟨70, 3, a, cellsV (D ++ (({ n := m, l := markT (m + 1), k := g.1.k } : PC), g.2) :: T)⟩ :: kidCh (D ++ T)) (st.perm ?_) (fun o => markIntS_ok (k := (m : Int) + 1 + 1) o (by omega) (by omega)) fun y cs1 w2 N2 hp st => ?_
    · simp only [cowCh, List.append_nil]
      exact (List.Perm.swap _ _ _).trans (List.Perm.cons _ (kid_mid D T (((⟨m, markT (m + 1), g.1.k⟩ : PC), g.2) : GC)).symm)
    obtain ⟨rfl, rfl⟩ := hp
    show next _ _ _
    rw [w64s (by simp only [maxLen]; omega)]
    refine hn2 (m + 2 + g.2.n, D ++ [((⟨m, markT (m + 1), seqI ((m + 2 : Nat) : Int) g.2.n⟩ : PC), g.2)], T) _ _ _ ⟨?_, ?_, hend, by simp; omega⟩ (by simp) (st.perm ?_)
    · refine Prod.ext ?_ ?_ <;> simp <;> omega
    · simp only [List.append_assoc, List.cons_append, List.nil_append]; exact he
    · have e1 : (m : Int) + 1 + 1 = ((m + 2 : Nat) : Int) := by omega
      have e2 : cellsV (D ++ (({ n := m, l := markT (m + 1), k := g.1.k } : PC), g.2) :: T) = cellsV (D ++ (({ n := m, l := markT (m + 1), k := seqI ((m + 2 : Nat) : Int) g.2.n } : PC), g.2) :: T) := by
        simp only [cellsV_app, cellsV]
      rw [e1, e2]
      simp only [cowCh, List.append_nil, List.append_assoc, List.cons_append, List.nil_append]
      exact (List.Perm.cons _ (kid_mid D T _)).trans (List.Perm.swap _ _ _)
  · have hT : T = [] := List.eq_nil_of_length_eq_zero (by simp [hn] at h2; omega)
    subst hT
    simp only [markC, markEnd, List.append_nil] at he hend
    subst he
    refine hR _ _ _ _ _ st ⟨?_, by simp⟩ rfl
    rw [← hend]

/-- cells that bear their marks -/
theorem heldCellS_ok {w : World} {a : Sl} {gs : List GC} {k : Nat} (ha : RC w a (markC k gs)) (hb : markEnd k gs ≤ 2305843009213693952) :
    Calls Try.prog 45 #[Sl.v a, .int .i64 k] w fun e w' => ∃ (y : Int) (cs1 : List Ch), e = .returned (.int .i64 y) ∧ (y = markEnd k gs ∧ cs1 = []) ∧ Res w [] w' cs1 := by
  have hn := ha.n
  rw [markC_len] at hn
  have hge := markEnd_ge k gs
  refine run_ok (fun R => f45_laws_heldCellS.ok R a k w) [] (Own.nil w NO) (.int .i64) (fun y cs1 => y = markEnd k gs ∧ cs1 = []) fun R hR w1 N1 st => ?_
  unfold f45_laws_heldCellS.T
  refine t_loop (fun (p : Nat × List GC × List GC) (s : Int × Int) => s = ((p.1 : Int), (p.2.1.length : Int)) ∧ p.2.1 ++ markC p.1 p.2.2 = markC k gs ∧ markEnd p.1 p.2.2 = markEnd k gs ∧ p.2.1.length + p.2.2.length = gs.length) (fun p _ => []) (fun p _ => p.2.2.length) (k, [], gs) st ⟨rfl, rfl, rfl, by simp⟩ ?_
  rintro ⟨m, D, T⟩ s w2 N2 next ⟨rfl, he, hend, hlen⟩ st hn2
  simp only at he hend hlen st hn2 ⊢
  have hge2 := markEnd_ge m T
  show f45_laws_heldCellS.L1 R a (m : Int) (D.length : Int) _ w2 N2
  unfold f45_laws_heldCellS.L1
  refine t_ite (fun h2 => ?_) (fun h2 => ?_)
  · have hil : D.length < gs.length := by simp [hn] at h2; exact h2
    obtain ⟨g, T, rfl⟩ : ∃ g T', T = g :: T' := by
      cases T with
      | nil => simp at hlen; omega
      | cons g T => exact ⟨g, T, rfl⟩
    have hge3 := markEnd_ge (m + 2 + g.2.n) T
    simp only [markC, markEnd, List.length_cons] at he hend hlen hge2
    have hlm : D.length < (markC k gs).length := by rw [markC_len]; exact hil
    obtain ⟨ad, hA, _, c0, c1, c2, hrd⟩ := ha.at hlm
    have hg : (markC k gs)[D.length] = (((⟨m, markT (m + 1), seqI ((m + 2 : Nat) : Int) g.2.n⟩ : PC), g.2) : GC) := by
      have := at_mid D (markC (m + 2 + g.2.n) T) (((⟨m, markT (m + 1), seqI ((m + 2 : Nat) : Int) g.2.n⟩ : PC), g.2) : GC)
      rw [he] at this
      exact (List.getElem?_eq_some_iff.1 this).2
    rw [hg] at c0 c1 c2 hrd
    have hlt : (D.length : Int) < a.n := by omega
    refine t_idx' (D.length * 3) hA (by omega) hlt (by simp) ?_
    refine t_ldc st (fun w' N' s => s.old0 c0) fun w2 N2 st => ?_
    refine t_itef (by simp) ?_
    refine t_idx' (D.length * 3) hA (by omega) hlt (by simp) ?_
    refine t_ldc st (fun w' N' s => s.old0 c1) fun w2 N2 st => ?_
    rw [w64i (x := (m : Int) + 1) (by omega) (by omega)]
    refine t_call (cs := []) (rest := []) (Post := fun (y : ByteArray) cs1 => y = markT (m + 1) ∧ cs1 = []) st (fun _ => markText_ok (k := m + 1) (by omega)) fun y cs1 w2 N2 hp st => ?_
    obtain ⟨rfl, rfl⟩ := hp
    refine t_chk st (fun w' N' s => s.old0 c1) fun w2 N2 st => ?_
    refine t_itef (by simp) ?_
    refine t_idx' (D.length * 3) hA (by omega) hlt (by simp) ?_
    refine t_ldc st (fun w' N' s => s.old0 c2) fun w2 N2 st => ?_
    rw [w64i (x := (m : Int) + 1 + 1) (by omega) (by omega)]
    have e1 : (m : Int) + 1 + 1 = ((m + 2 : Nat) : Int) := by omega
    rw [e1]
    refine t_callp st (heldIntS_ok (st.rd0 hrd) (by omega) (by simp only; omega)) fun w2 N2 st => ?_
    refine t_itef (decide_eq_false (by omega)) ?_
    show next _ _ _
    rw [w64s (by simp only [maxLen]; omega)]
    refine hn2 (m + 2 + g.2.n, D ++ [(((⟨m, markT (m + 1), seqI ((m + 2 : Nat) : Int) g.2.n⟩ : PC), g.2) : GC)], T) _ _ _ ⟨?_, ?_, hend, by simp; omega⟩ (by simp) st
    · refine Prod.ext ?_ ?_ <;> simp
    · simp only [List.append_assoc, List.cons_append, List.nil_append]; exact he
  · have hT : T = [] := List.eq_nil_of_length_eq_zero (by simp [hn] at h2; omega)
    subst hT
    simp only [markC, markEnd, List.append_nil] at he hend
    exact hR _ _ _ _ _ st ⟨by rw [← hend], rfl⟩ rfl

/-! ### a cow in memory -/
def cowO (a b : Sl) (gs : List GC) (rs : List Int) : List Ch := cowCh a gs ++ [⟨3, 1, b, ints rs⟩]
structure RW (w : World) (a b : Sl) (gs : List GC) (rs : List Int) : Prop where
  c : RC w a gs
  r : Rd w 1 b (ints rs)
theorem RW.below {w w' : World} {a b : Sl} {gs : List GC} {rs : List Int} (h : RW w a b gs rs) (hb : Below w.heap.size w w') : RW w' a b gs rs := ⟨h.c.below hb, h.r.below hb⟩
theorem RW.st {w w' : World} {N : NP} {cs : List Ch} {a b : Sl} {gs : List GC} {rs : List Int} (h : RW w a b gs rs) (st : Stt w [] cs w' N) : RW w' a b gs rs := h.below st.upd.below
theorem Own_rw {w : World} {N : NP} {a b : Sl} {gs : List GC} {rs : List Int} {rest : List Ch} (o : Own w N (cowO a b gs rs ++ rest)) : RW w a b gs rs :=
  ⟨Own_rc o.left.left, (o.left.right.ok _ (List.mem_singleton_self _)).rd⟩

theorem szCow_ok {w : World} {a b : Sl} {gs : List GC} {rs : List Int} {lv k : Int} (h : RW w a b gs rs) (h0 : 0 ≤ k) (h1 : k ≤ 1048576) (hl : ∀ g ∈ gs, g.1.l.size ≤ maxLen) :
    Calls Try.prog 13 #[.agg #[Sl.v a, Sl.v b, .int .i64 lv], .int .i64 k] w fun e w' => ∃ (y : Int) (cs1 : List Ch), e = .returned (.int .i64 y) ∧ ((0 ≤ y → gs.length ≤ k ∧ rs.length ≤ k ∧ ∀ g ∈ gs, g.1.k.length ≤ k) ∧ cs1 = []) ∧ Res w [] w' cs1 := by
  have hnb : b.n = rs.length := by simpa using h.r.n1
  refine run_ok (fun R => f13_laws_szCow.ok R a b lv k w) [] (Own.nil w NO) (.int .i64) (fun y cs1 => (0 ≤ y → gs.length ≤ k ∧ rs.length ≤ k ∧ ∀ g ∈ gs, g.1.k.length ≤ k) ∧ cs1 = []) fun R hR w1 N1 st => ?_
  unfold f13_laws_szCow.T
  refine t_call (cs := []) (rest := []) st (fun _ => szCellS_ok (h.c.st st) h0 h1 hl) fun y cs1 w2 N2 hp st => ?_
  obtain ⟨hp, rfl⟩ := hp
  refine t_ite (fun h2 => ?_) (fun h2 => ?_)
  · exact hR (-1) _ _ _ _ st ⟨fun h => by omega, rfl⟩ rfl
  · have hy : 0 ≤ y := by simpa using h2
    obtain ⟨p1, p2, p3⟩ := hp hy
    refine t_callp st (szIntS_ok hy (by omega) h.r.2.1) fun w2 N2 st => ?_
    refine t_ite (fun h3 => ?_) (fun h3 => ?_)
    · exact hR (-1) _ _ _ _ st ⟨fun h => by omega, rfl⟩ rfl
    · refine hR _ _ _ _ _ st ⟨fun h3 => ⟨p2, ?_, p3⟩, rfl⟩ rfl
      split at h3 <;> omega

theorem toCow_ok {w : World} {a b : Sl} {gs : List GC} {rs : List Int} {lv : Int} (h : RW w a b gs rs) (hg : gs.length ≤ 1048576) (hr : rs.length ≤ 1048576) (hk : ∀ g ∈ gs, g.1.k.length ≤ 1048576) :
    Calls Try.prog 14 #[.agg #[Sl.v a, Sl.v b, .int .i64 lv]] w fun e w' => ∃ (y : Sl × Sl × Int) (cs1 : List Ch), e = .returned (.agg #[Sl.v y.1, Sl.v y.2.1, .int .i64 y.2.2]) ∧
      (∃ gs', gs'.map (·.1) = gs.map (·.1) ∧ y.2.2 = lv ∧ cs1 = cowO y.1 y.2.1 gs' rs) ∧ Res w [] w' cs1 := by
  refine run_ok (fun R => f14_laws_toCow.ok R a b lv w) [] (Own.nil w NO) (fun (y : Sl × Sl × Int) => .agg #[Sl.v y.1, Sl.v y.2.1, .int .i64 y.2.2]) (fun y cs1 => ∃ gs', gs'.map (·.1) = gs.map (·.1) ∧ y.2.2 = lv ∧ cs1 = cowO y.1 y.2.1 gs' rs) fun R hR w1 N1 st => ?_
  unfold f14_laws_toCow.T
  refine t_call (cs := []) (rest := []) st (fun _ => toCellS_ok (h.c.st st) hg hk) fun y cs1 w2 N2 hp st => ?_
  obtain ⟨gs', he, rfl⟩ := hp
  refine t_call (cs := []) (rest := cowCh y gs') (st.eq (by simp)) (fun _ => toIntS_ok (h.r.below st.upd.below) hr) fun z cs1 w2 N2 hp st => ?_
  obtain ⟨_, rfl⟩ := hp
  exact hR (y, z, lv) _ _ _ _ (st.perm (List.perm_append_comm (l₁ := cowCh y gs'))) ⟨gs', he, rfl, rfl⟩ rfl

theorem eqCow_ok {w : World} {a b c d : Sl} {gs hs : List GC} {rs ss : List Int} {lv lw : Int} (h : RW w a b gs rs) (h2 : RW w c d hs ss) :
    Calls Try.prog 15 #[.agg #[Sl.v a, Sl.v b, .int .i64 lv], .agg #[Sl.v c, Sl.v d, .int .i64 lw]] w fun e w' => e = .returned (.bool (decide (gs.map (·.1) = hs.map (·.1) ∧ rs = ss ∧ lv = lw))) ∧ Below w.heap.size w w' := by
  refine run_pure (fun R => f15_laws_eqCow.ok R a b lv c d lw w) fun R hR w1 N1 st => ?_
  unfold f15_laws_eqCow.T
  refine t_callp st (eqCellS_ok (h.c.st st) (h2.c.st st)) fun w2 N2 st => ?_
  refine t_ite (fun h3 => ?_) (fun h3 => ?_)
  · exact hR _ _ _ _ st (by simp at h3; simp [h3])
  refine t_callp st (eqIntS_ok (st.rd0 h.r) (st.rd0 h2.r)) fun w2 N2 st => ?_
  refine t_ite (fun h4 => ?_) (fun h4 => ?_)
  · exact hR _ _ _ _ st (by simp at h4; simp [h4])
  refine t_ite (fun h5 => ?_) (fun h5 => ?_)
  · exact hR _ _ _ _ st (by simp at h5; simp [h5])
  · exact hR _ _ _ _ st (by simp at h3 h4 h5; simp [h3, h4, h5])

theorem markCow_ok {w : World} {a b : Sl} {gs : List GC} {rs : List Int} {lv : Int} {k : Nat} (o : Own w NO (cowO a b gs rs)) (hb : markEnd k gs + rs.length ≤ 2305843009213693952) :
    Calls Try.prog 16 #[.agg #[Sl.v a, Sl.v b, .int .i64 lv], .int .i64 k] w fun e w' => ∃ (y : Int) (cs1 : List Ch), e = .returned (.int .i64 y) ∧ (y = markEnd k gs + rs.length ∧ cs1 = cowO a b (markC k gs) (seqI (markEnd k gs) rs.length)) ∧ Res w (cowO a b gs rs) w' cs1 := by
  have hnb : b.n = rs.length := by have := (o.right.ok _ (List.mem_singleton_self _)).1; simpa using this.symm
  refine run_ok (fun R => f16_laws_markCow.ok R a b lv k w) _ o (.int .i64) (fun y cs1 => y = markEnd k gs + rs.length ∧ cs1 = cowO a b (markC k gs) (seqI (markEnd k gs) rs.length)) fun R hR w1 N1 st => ?_
  unfold f16_laws_markCow.T
  refine t_call (cs := cowCh a gs) (rest := [⟨3, 1, b, ints rs⟩]) st (fun o => markCellS_ok o (by omega)) fun y cs1 w2 N2 hp st => ?_
  obtain ⟨rfl, rfl⟩ := hp
  refine t_call (cs := [⟨3, 1, b, ints rs⟩]) (rest := cowCh a (markC k gs)) (st.perm List.perm_append_comm) (fun o => markIntS_ok o (by omega) (by omega)) fun y cs1 w2 N2 hp st => ?_
  obtain ⟨rfl, rfl⟩ := hp
  refine hR _ _ _ _ _ (st.perm (List.perm_append_comm (l₁ := cowCh a (markC k gs)))) ⟨by rw [hnb], by rw [cowO, hnb]⟩ rfl

theorem heldCow_ok {w : World} {a b : Sl} {gs : List GC} {n : Nat} {lv : Int} {k : Nat} (h : RW w a b (markC k gs) (seqI (markEnd k gs) n)) (hb : markEnd k gs + n ≤ 2305843009213693952) :
    Calls Try.prog 17 #[.agg #[Sl.v a, Sl.v b, .int .i64 lv], .int .i64 k] w fun e w' => ∃ (y : Int) (cs1 : List Ch), e = .returned (.int .i64 y) ∧ (y = markEnd k gs + n ∧ cs1 = []) ∧ Res w [] w' cs1 := by
  have hnb : b.n = n := by simpa using h.r.n1
  refine run_ok (fun R => f17_laws_heldCow.ok R a b lv k w) [] (Own.nil w NO) (.int .i64) (fun y cs1 => y = markEnd k gs + n ∧ cs1 = []) fun R hR w1 N1 st => ?_
  unfold f17_laws_heldCow.T
  refine t_call (cs := []) (rest := []) st (fun _ => heldCellS_ok (h.c.st st) (by omega)) fun y cs1 w2 N2 hp st => ?_
  obtain ⟨rfl, rfl⟩ := hp
  refine t_itef (decide_eq_false (by omega)) ?_
  refine t_callp st (heldIntS_ok (by rw [hnb]; exact st.rd0 h.r) (by omega) (by omega)) fun w2 N2 st => ?_
  refine t_itef (decide_eq_false (by omega)) ?_
  exact hR _ _ _ _ _ st ⟨by rw [hnb], rfl⟩ rfl
end Go.Proofs.Ytboccoihmginiaa

namespace Go.Proofs.Ytboccoihmginiaa
open Go.RowKit Go.Sol
set_option linter.unusedVariables false
set_option linter.unusedSimpArgs false

theorem within_ok {w : World} (a b c : Int) : Calls Try.prog 22 #[.int .i64 a, .int .i64 b, .int .i64 c] w fun e w' => e = .returned (.bool (decide (b ≤ a ∧ a ≤ c))) ∧ Below w.heap.size w w' := by
  refine run_pure (fun R => f22_impl_within.ok R a b c w) fun R hR w1 N1 st => ?_
  unfold f22_impl_within.T f22_impl_within.J1
  refine t_ite (fun h => ?_) (fun h => ?_)
  · exact hR _ _ _ _ st (by simp at h; simp [h])
  · exact hR _ _ _ _ st (by simp at h; simp; omega)
theorem l1In_ok {w : World} (a b c : Int) : Calls Try.prog 27 #[.int .i64 a, .int .i64 b, .int .i64 c] w fun e w' => e = .returned (.bool (decide (b ≤ a ∧ a ≤ c))) ∧ Below w.heap.size w w' := by
  refine run_pure (fun R => f27_spec_l1In.ok R a b c w) fun R hR w1 N1 st => ?_
  unfold f27_spec_l1In.T f27_spec_l1In.J1
  refine t_ite (fun h => ?_) (fun h => ?_)
  · exact hR _ _ _ _ st (by simp at h; simp [h])
  · exact hR _ _ _ _ st (by simp at h; simp; omega)
theorem isNumber_ok {w : World} (a b : Sl) (lv k : Int) (hn : a.n ≤ maxLen) : Calls Try.prog 33 #[.agg #[Sl.v a, Sl.v b, .int .i64 lv], .int .i64 k] w fun e w' => e = .returned (.bool (decide (-1 ≤ k ∧ k ≤ (a.n : Int) - 1))) ∧ Below w.heap.size w w' := by
  refine run_pure (fun R => f33_impl_Cow_isNumber.ok R a b lv k w) fun R hR w1 N1 st => ?_
  unfold f33_impl_Cow_isNumber.T
  rw [w64i (by omega) (by simp only [maxLen] at hn; omega)]
  refine t_callp st (within_ok _ _ _) fun w2 N2 st => ?_
  exact hR _ _ _ _ st rfl
/-- the places of a level: 4 ^ (l - 1) -/
theorem places_ok {w : World} (a b : Sl) {lv : Nat} (h1 : 1 ≤ lv) (h2 : lv ≤ 3) : Calls Try.prog 23 #[.agg #[Sl.v a, Sl.v b, .int .i64 lv]] w fun e w' => e = .returned (.int .i64 ((4 ^ (lv - 1) : Nat) : Int)) ∧ Below w.heap.size w w' := by
  refine run_pure (fun R => f23_impl_Cow_places.ok R a b lv w) fun R hR w1 N1 st => ?_
  unfold f23_impl_Cow_places.T
  have h : lv = 1 ∨ lv = 2 ∨ lv = 3 := by omega
  rcases h with rfl | rfl | rfl
  · exact t_ass (by decide) (hR _ _ _ _ st (congrArg (Value.int .i64) (by decide)))
  · exact t_ass (by decide) (hR _ _ _ _ st (congrArg (Value.int .i64) (by decide)))
  · exact t_ass (by decide) (hR _ _ _ _ st (congrArg (Value.int .i64) (by decide)))
theorem l14Size_ok {w : World} {lv : Nat} (h1 : 1 ≤ lv) (h2 : lv ≤ 4) : Calls Try.prog 55 #[.int .i64 lv] w fun e w' => e = .returned (.int .i64 ((4 ^ (lv - 1) : Nat) : Int)) ∧ Below w.heap.size w w' := by
  refine run_pure (fun R => f55_spec_l14Size.ok R lv w) fun R hR w1 N1 st => ?_
  unfold f55_spec_l14Size.T
  refine t_loop (fun (m : Nat) (s : Int × Int) => s.1 = (m : Int) ∧ 1 ≤ m ∧ m ≤ lv ∧ s.2 = ((4 ^ (lv - m) : Nat) : Int)) (fun _ _ => []) (fun m _ => m) lv st ⟨rfl, h1, Nat.le_refl _, by simp⟩ ?_
  rintro m ⟨j, x⟩ w2 N2 next ⟨hj, hm, hml, hx⟩ st hn
  simp only at hj hx
  subst hj hx
  show f55_spec_l14Size.L1 R (m : Int) _ _ w2 N2
  unfold f55_spec_l14Size.L1
  have hp : 4 ^ (lv - m) ≤ 64 := Nat.pow_le_pow_right (show 0 < 4 by omega) (show lv - m ≤ 3 by omega)
  have hp2 : ((4 ^ (lv - m) : Nat) : Int) ≤ 64 := by omega
  generalize hx : 4 ^ (lv - m) = x at *
  refine t_ite (fun h => ?_) (fun h => ?_)
  · have hm2 : 1 < m := by simp at h; omega
    show next _ _ _
    rw [w64i (by omega) (by omega), w64i (by omega) (by omega)]
    refine hn (m - 1) _ _ _ ⟨by simp only; omega, by omega, by omega, ?_⟩ (by omega) st
    rw [show lv - (m - 1) = lv - m + 1 by omega, Nat.pow_succ, hx]
    simp
  · have hm2 : m = 1 := by simp at h; omega
    subst hm2
    exact hR _ _ _ _ st (by rw [hx])
theorem l14Places_ok {w : World} (a b : Sl) {lv : Nat} (h1 : 1 ≤ lv) (h2 : lv ≤ 3) : Calls Try.prog 28 #[.agg #[Sl.v a, Sl.v b, .int .i64 lv]] w fun e w' => e = .returned (.int .i64 ((4 ^ (lv - 1) : Nat) : Int)) ∧ Below w.heap.size w w' := by
  refine run_pure (fun R => f28_spec_l14Places.ok R a b lv w) fun R hR w1 N1 st => ?_
  unfold f28_spec_l14Places.T
  rw [w64i (by omega) (by omega)]
  refine t_callp st (l14Size_ok (lv := lv + 1) (by omega) (by omega)) fun w2 N2 st => ?_
  have h : lv = 1 ∨ lv = 2 ∨ lv = 3 := by omega
  rcases h with rfl | rfl | rfl <;> exact hR _ _ _ _ st (congrArg (Value.int .i64) (by decide))
/-- a place's digit at a level -/
def dig (at_ lv : Nat) : Nat := at_ / 4 ^ (lv - 2) % 4
theorem digit_ok {w : World} {at_ lv : Nat} (h1 : 2 ≤ lv) (h2 : lv ≤ 3) (h3 : at_ < 4611686018427387904) : Calls Try.prog 52 #[.int .i64 at_, .int .i64 lv] w fun e w' => e = .returned (.int .i64 (dig at_ lv : Int)) ∧ Below w.heap.size w w' := by
  refine run_pure (fun R => f52_impl_digit.ok R at_ lv w) fun R hR w1 N1 st => ?_
  unfold f52_impl_digit.T
  have hb : ∀ n : Nat, n < 4611686018427387904 → bits .and .i64 (n : Int) 3 = ((n % 4 : Nat) : Int) := by
    intro n hn
    have e63 : (2 : Int) ^ 63 = 9223372036854775808 := by decide
    have h := bits_mask .i64 63 (by decide) (fun m h0 h1 => w64i (by omega) (by rw [e63] at h1; omega)) 2 (by decide) (n : Int) (by omega) (by rw [e63]; omega)
    have e : ((2 : Int) ^ 2 - 1) = 3 := by decide
    have e2 : ((2 : Int) ^ 2) = 4 := by decide
    rw [e, e2] at h
    rw [h]
    omega
  have h : lv = 2 ∨ lv = 3 := by omega
  rcases h with rfl | rfl
  · refine t_ass (by decide) (hR _ _ _ _ st ?_)
    have : (at_ : Int) / 2 ^ min (IntKind.i64.wrap (2 * IntKind.i64.wrap ((2 : Nat) - 2))).toNat IntKind.i64.bits = ((at_ / 4 ^ (2 - 2) : Nat) : Int) := by
      rw [show min (IntKind.i64.wrap (2 * IntKind.i64.wrap ((2 : Nat) - 2))).toNat IntKind.i64.bits = 0 by decide]; simp
    rw [this, hb _ (Nat.lt_of_le_of_lt (Nat.div_le_self _ _) h3)]
    rfl
  · refine t_ass (by decide) (hR _ _ _ _ st ?_)
    have : (at_ : Int) / 2 ^ min (IntKind.i64.wrap (2 * IntKind.i64.wrap ((3 : Nat) - 2))).toNat IntKind.i64.bits = ((at_ / 4 ^ (3 - 2) : Nat) : Int) := by
      rw [show min (IntKind.i64.wrap (2 * IntKind.i64.wrap ((3 : Nat) - 2))).toNat IntKind.i64.bits = 2 by decide]; simp
    rw [this, hb _ (Nat.lt_of_le_of_lt (Nat.div_le_self _ _) h3)]
    rfl
end Go.Proofs.Ytboccoihmginiaa

namespace Go.Proofs.Ytboccoihmginiaa
open Go.RowKit Go.Sol
set_option linter.unusedVariables false
set_option linter.unusedSimpArgs false

def noP : PC := ⟨0, ⟨#[]⟩, []⟩
def cellAt (cs : List PC) (k : Int) : PC := cs.getD k.toNat noP
def kidAt (c : PC) (d : Nat) : Int := c.k.getD d (-1)
def leafP (cs : List PC) (a : Nat) : Nat → Int → ByteArray
  | lv + 2, k => if k < 0 then ⟨#[]⟩ else leafP cs a (lv + 1) (kidAt (cellAt cs k) (dig a (lv + 2)))
  | _, k => if k < 0 then ⟨#[]⟩ else (cellAt cs k).l
/-- the way down is there -/
def PathOk (cs : List PC) (a : Nat) : Nat → Int → Prop
  | lv + 2, k => k < cs.length ∧ (0 ≤ k → (cellAt cs k).k.length = 4 ∧ PathOk cs a (lv + 1) (kidAt (cellAt cs k) (dig a (lv + 2))))
  | _, k => k < cs.length
def pcs (gs : List GC) : List PC := gs.map (·.1)
@[simp] theorem pcs_len (gs : List GC) : (pcs gs).length = gs.length := by simp [pcs]
theorem cellAt_pcs {gs : List GC} {i : Nat} (hi : i < gs.length) : cellAt (pcs gs) (i : Int) = gs[i].1 := by simp [cellAt, pcs, hi]
theorem dig_lt (a lv : Nat) : dig a lv < 4 := Nat.mod_lt _ (by omega)
theorem kid_get {c : PC} {d : Nat} (h : d < c.k.length) : c.k[d]? = some (kidAt c d) := by simp [kidAt, h]

theorem leafAt_ok {w : World} {a b : Sl} {gs : List GC} {rs : List Int} {lv root at_ : Nat} (h : RW w a b gs rs) (h1 : 1 ≤ lv) (h2 : lv ≤ 3) (hr : root < rs.length) (ha : at_ < 4611686018427387904) (hp : PathOk (pcs gs) at_ lv rs[root]) :
    Calls Try.prog 25 #[.agg #[Sl.v a, Sl.v b, .int .i64 lv], .int .i64 root, .int .i64 at_] w fun e w' => e = .returned (.string (leafP (pcs gs) at_ lv rs[root])) ∧ Below w.heap.size w w' := by
  have hnb : b.n = rs.length := by simpa using h.r.n1
  have hna := h.c.n
  refine run_pure (fun R => f25_impl_Cow_leafAt.ok R a b lv root at_ w) fun R hR w1 N1 st => ?_
  unfold f25_impl_Cow_leafAt.T
  obtain ⟨bd, hB, hd⟩ := h.r.addr (i := root) (by omega)
  refine t_idx' root hB (by omega) (by omega) (by simp) ?_
  refine t_ldc (x := rs[root]) st (fun w' N' s => s.old0 (hd root _ (ints_at (by simp [hr])))) fun w2 N2 st => ?_
  refine t_loop (fun (m : Nat) (s : Int × Int) => s.2 = (m : Int) ∧ 1 ≤ m ∧ m ≤ lv ∧ leafP (pcs gs) at_ m s.1 = leafP (pcs gs) at_ lv rs[root] ∧ PathOk (pcs gs) at_ m s.1) (fun _ _ => []) (fun m _ => m) lv st ⟨rfl, h1, Nat.le_refl _, rfl, hp⟩ ?_
  rintro m ⟨k, j⟩ w2 N2 next ⟨hj, hm, hml, he, hpk⟩ st hn
  simp only at hj he hpk
  subst hj
  show f25_impl_Cow_leafAt.L1 R a at_ k (m : Int) _ w2 N2
  unfold f25_impl_Cow_leafAt.L1
  have down : ∀ {w2 N2}, Stt w [] [] w2 N2 → 0 ≤ k → 1 < m → T.idx a k 3 (fun (p43 : Addr) => T.ldc (p43.add 2) Sl.v fun (x44 : Sl) => T.callq Try.prog 52 [.int .i64 (at_ : Int), .int .i64 (m : Int)] (Value.int .i64) fun (y46 : Int) => T.idx x44 y46 1 fun (p48 : Addr) => T.ldc p48 (Value.int .i64) fun (x49 : Int) => next (x49, IntKind.i64.wrap ((m : Int) - 1))) w2 N2 := by
    intro w2 N2 st hk0 hm1
    obtain ⟨m, rfl⟩ : ∃ q, m = q + 2 := ⟨m - 2, by omega⟩
    obtain ⟨i, rfl⟩ : ∃ i : Nat, k = (i : Int) := ⟨k.toNat, by omega⟩
    obtain ⟨hkl, hpk⟩ := hpk
    have hil : i < gs.length := by simp at hkl; omega
    obtain ⟨h4, hpk⟩ := hpk (by omega)
    rw [cellAt_pcs hil] at h4 hpk
    rw [leafP, if_neg (by omega), cellAt_pcs hil] at he
    obtain ⟨ad, hA, _, c0, c1, c2, hrd⟩ := h.c.at hil
    refine t_idx' (i * 3) hA (by omega) (by omega) (by simp) ?_
    refine t_ldc st (fun w' N' s => s.old0 c2) fun w2 N2 st => ?_
    refine t_callq st (fun w' N' s => digit_ok (by omega) (by omega) ha) fun w2 N2 st => ?_
    have hdl := dig_lt at_ (m + 2)
    have hn4 : gs[i].2.n = 4 := by have := hrd.n1; simp at this; omega
    obtain ⟨kd, hK, hkc⟩ := hrd.addr (i := dig at_ (m + 2)) (by omega)
    refine t_idx' (dig at_ (m + 2)) hK (by omega) (by omega) (by simp) ?_
    refine t_ldc (x := kidAt gs[i].1 (dig at_ (m + 2))) st (fun w' N' s => s.old0 (hkc _ _ (ints_at (kid_get (by omega))))) fun w2 N2 st => ?_
    rw [w64i (by omega) (by omega)]
    exact hn (m + 1) _ _ _ ⟨by simp only; omega, by omega, by omega, he, hpk⟩ (by omega) st
  have last : ∀ {w2 N2}, Stt w [] [] w2 N2 → (k < 0 ∨ m = 1) → T.ite (decide (k < 0)) (T.ret R (.string (⟨#[]⟩ : ByteArray))) (T.idx a k 3 fun (p65 : Addr) => T.ldc (p65.add 1) Value.string fun (x66 : ByteArray) => T.ret R (.string x66)) w2 N2 := by
    intro w2 N2 st hkm
    refine t_ite (fun h => ?_) (fun h3 => ?_)
    · have hk : k < 0 := by simpa using h
      have : leafP (pcs gs) at_ m k = ⟨#[]⟩ := by
        obtain ⟨m, rfl⟩ : ∃ q, m = q + 1 := ⟨m - 1, by omega⟩
        cases m <;> simp [leafP, hk]
      exact hR _ _ _ _ st (by rw [← he, this])
    · have hk : 0 ≤ k := by simpa using h3
      obtain rfl : m = 1 := hkm.resolve_left (by omega)
      obtain ⟨i, rfl⟩ : ∃ i : Nat, k = (i : Int) := ⟨k.toNat, by omega⟩
      have hil : i < gs.length := by simp [PathOk] at hpk; omega
      rw [leafP, if_neg (by omega), cellAt_pcs hil] at he
      · obtain ⟨ad, hA, _, c0, c1, c2, hrd⟩ := h.c.at hil
        refine t_idx' (i * 3) hA (by omega) (by omega) (by simp) ?_
        refine t_ldc st (fun w' N' s => s.old0 c1) fun w2 N2 st => ?_
        exact hR _ _ _ _ st (by rw [he])
      · intro lv; omega
  unfold f25_impl_Cow_leafAt.J2
  refine t_ite (fun h3 => ?_) (fun h3 => ?_)
  · have hk0 : 0 ≤ k := by simpa using h3
    refine t_ite (fun h4 => ?_) (fun h4 => ?_)
    · exact down st hk0 (by simp at h4; omega)
    · exact last st (.inr (by simp at h4; omega))
  · exact t_itef rfl (last st (.inl (by simp at h3; omega)))

theorem l14Leaf_ok {w : World} {a b : Sl} {gs : List GC} {rs : List Int} {lv at_ : Nat} {k0 : Int} (h : RW w a b gs rs) (h1 : 1 ≤ lv) (h2 : lv ≤ 3) (ha : at_ < 4 ^ (lv - 1)) (hp : PathOk (pcs gs) at_ lv k0) :
    Calls Try.prog 29 #[.agg #[Sl.v a, Sl.v b, .int .i64 lv], .int .i64 k0, .int .i64 at_] w fun e w' => e = .returned (.string (leafP (pcs gs) at_ lv k0)) ∧ Below w.heap.size w w' := by
  have hna := h.c.n
  have hp4 : ∀ m, m ≤ 3 → 4 ^ m ≤ 64 := fun m hm => Nat.pow_le_pow_right (show 0 < 4 by omega) hm
  refine run_pure (fun R => f29_spec_l14Leaf.ok R a b lv k0 at_ w) fun R hR w1 N1 st => ?_
  unfold f29_spec_l14Leaf.T
  refine t_loop (fun (m : Nat) (s : Int × Int × Int) => s.2.2 = (m : Int) ∧ s.2.1 = ((at_ % 4 ^ (m - 1) : Nat) : Int) ∧ 1 ≤ m ∧ m ≤ lv ∧ leafP (pcs gs) at_ m s.1 = leafP (pcs gs) at_ lv k0 ∧ PathOk (pcs gs) at_ m s.1) (fun _ _ => []) (fun m _ => m) lv st ⟨rfl, by simp only; rw [Nat.mod_eq_of_lt ha], h1, Nat.le_refl _, rfl, hp⟩ ?_
  rintro m ⟨k, x, j⟩ w2 N2 next ⟨hj, hx, hm, hml, he, hpk⟩ st hn
  simp only at hj he hpk hx
  subst hj hx
  show f29_spec_l14Leaf.L1 R a k _ (m : Int) _ w2 N2
  unfold f29_spec_l14Leaf.L1
  unfold f29_spec_l14Leaf.J2
  refine t_ite (fun h3 => ?_) (fun h3 => ?_)
  · have hk0 : 0 ≤ k := by simpa using h3
    obtain ⟨i, rfl⟩ : ∃ i : Nat, k = (i : Int) := ⟨k.toNat, by omega⟩
    refine t_ite (fun h4 => ?_) (fun h4 => ?_)
    · have hm1 : 1 < m := by simp at h4; omega
      obtain ⟨m, rfl⟩ : ∃ q, m = q + 2 := ⟨m - 2, by omega⟩
      obtain ⟨hkl, hpk⟩ := hpk
      have hil : i < gs.length := by simp at hkl; omega
      obtain ⟨h4', hpk⟩ := hpk (by omega)
      rw [cellAt_pcs hil] at h4' hpk
      rw [leafP, if_neg (by omega), cellAt_pcs hil] at he
      obtain ⟨ad, hA, _, c0, c1, c2, hrd⟩ := h.c.at hil
      refine t_callp st (l14Size_ok (lv := m + 2) (by omega) (by omega)) fun w2 N2 st => ?_
      refine t_idx' (i * 3) hA (by omega) (by omega) (by simp) ?_
      refine t_ldc st (fun w' N' s => s.old0 c2) fun w2 N2 st => ?_
      have hpm := hp4 m (by omega)
      have hpos : 0 < 4 ^ m := Nat.pow_pos (by omega)
      have hq : IntKind.i64.wrap (((4 ^ (m + 2 - 1) : Nat) : Int).tdiv 4) = ((4 ^ m : Nat) : Int) := by
        have : ((4 ^ (m + 2 - 1) : Nat) : Int).tdiv 4 = ((4 ^ m : Nat) : Int) := by
          rw [show m + 2 - 1 = m + 1 by omega, Nat.pow_succ, Int.tdiv_eq_ediv_of_nonneg (by omega)]
          omega
        rw [this, w64i (by omega) (by omega)]
      rw [hq]
      have hdg : (at_ % 4 ^ (m + 2 - 1)) / 4 ^ m = dig at_ (m + 2) := by
        rw [show m + 2 - 1 = m + 1 by omega, Nat.pow_succ, Nat.mod_mul_right_div_self]; rfl
      have hdl := dig_lt at_ (m + 2)
      have hd2 : IntKind.i64.wrap (((at_ % 4 ^ (m + 2 - 1) : Nat) : Int).tdiv ((4 ^ m : Nat) : Int)) = (dig at_ (m + 2) : Int) := by
        rw [Int.tdiv_eq_ediv_of_nonneg (by omega), ← Int.natCast_ediv, hdg, w64i (by omega) (by omega)]
      rw [hd2]
      have hne : ((4 ^ m : Nat) : Int) ≠ 0 := by omega
      refine t_ass hne ?_
      have hn4 : gs[i].2.n = 4 := by have := hrd.n1; simp at this; omega
      obtain ⟨kd, hK, hkc⟩ := hrd.addr (i := dig at_ (m + 2)) (by omega)
      refine t_idx' (dig at_ (m + 2)) hK (by omega) (by omega) (by simp) ?_
      refine t_ldc (x := kidAt gs[i].1 (dig at_ (m + 2))) st (fun w' N' s => s.old0 (hkc _ _ (ints_at (kid_get (by omega))))) fun w2 N2 st => ?_
      refine t_ass hne ?_
      have hmod : ((at_ % 4 ^ (m + 2 - 1) : Nat) : Int).tmod ((4 ^ m : Nat) : Int) = ((at_ % 4 ^ m : Nat) : Int) := by
        rw [Int.tmod_eq_emod_of_nonneg (by omega), ← Int.natCast_emod, show m + 2 - 1 = m + 1 by omega, Nat.pow_succ, Nat.mod_mul_right_mod]
      rw [hmod, w64i (by omega) (by omega)]
      exact hn (m + 1) _ _ _ ⟨by simp only; omega, by simp, by omega, by omega, he, hpk⟩ (by omega) st
    · obtain rfl : m = 1 := by simp at h4; omega
      refine t_itef (by simp) ?_
      have hil : i < gs.length := by simp [PathOk] at hpk; omega
      rw [leafP, if_neg (by omega), cellAt_pcs hil] at he
      · obtain ⟨ad, hA, _, c0, c1, c2, hrd⟩ := h.c.at hil
        refine t_idx' (i * 3) hA (by omega) (by omega) (by simp) ?_
        refine t_ldc st (fun w' N' s => s.old0 c1) fun w2 N2 st => ?_
        exact hR _ _ _ _ st (by rw [he])
      · intro lv; omega
  · have hk : k < 0 := by simp at h3; omega
    refine t_itef rfl (t_itet (by simpa using hk) ?_)
    have : leafP (pcs gs) at_ m k = ⟨#[]⟩ := by
      obtain ⟨m, rfl⟩ : ∃ q, m = q + 1 := ⟨m - 1, by omega⟩
      cases m <;> simp [leafP, hk]
    exact hR _ _ _ _ st (by rw [← he, this])
end Go.Proofs.Ytboccoihmginiaa
