/-
Helper texts: Helper text, written by a program of ours (gen.py): what Go functions do, as predicates on worlds. Helper text: cells: what the copying, comparing and measuring functions do. Helper text: cells that are owned: reading and writing them; marks. Helper text: ranges, digits, sizes, leaves, copies. Helper text: leaves, greatest kids, copies of kids. Helper text: greatest kids, copies of kids and of whole states. Helper text: cells made: the first free place. Helper text: repeated kids; a cell of one's own. Helper text: a cell of one's own, in the program and in the reference. Helper text: a cell of one's own in the reference. Helper text: a leaf put below a reference, in the program and in the reference. No condition.
-/
import Derived.Test.YtboccoihmginiaaP3
import Derived.Laws.BitsLemmas
import Derived.Laws.Bits64
namespace Go.Proofs.Ytboccoihmginiaa
open Go.RowKit Go.Sol
set_option linter.unusedVariables false
set_option linter.unusedSimpArgs false
def f3_laws_FnPictures.J6 (R : Value → World → Prop) (y107 : Sl × Bool) (next130 : (Int) → Tm) (s5_116 : Int) (j6_17 : ByteArray) : Tm :=
  T.idx y107.1 s5_116 1 fun (p167 : Addr) => T.ldc p167 Value.string fun (x168 : ByteArray) => T.ite (!(x168.toList == j6_17.toList)) (T.ret R (.bool false)) (next130 (IntKind.i64.wrap (s5_116 + 1)))
def f3_laws_FnPictures.J7 (R : Value → World → Prop) (y17 : Sl × Sl × Int × Int × Int × ByteArray) (y107 : Sl × Bool) (next130 : (Int) → Tm) (s5_116 : Int) (x153 : ByteArray) (j7_130 : Bool) : Tm :=
  T.ite j7_130 (f3_laws_FnPictures.J6 R y107 next130 s5_116 y17.2.2.2.2.2) (f3_laws_FnPictures.J6 R y107 next130 s5_116 x153)
def f3_laws_FnPictures.L5 (R : Value → World → Prop) (y17 : Sl × Sl × Int × Int × Int × ByteArray) (next82 : (Int) → Tm) (s3_86 : Int) (y103 : Sl × Bool) (y107 : Sl × Bool) (s5_116 : Int) (next130 : (Int) → Tm) : Tm :=
  T.ite (decide (s5_116 < (y103.1.n : Int))) (T.idx y103.1 s5_116 1 fun (p152 : Addr) => T.ldc p152 Value.string fun (x153 : ByteArray) => T.ite (s3_86 == y17.2.2.2.1) (f3_laws_FnPictures.J7 R y17 y107 next130 s5_116 x153 (s5_116 == y17.2.2.2.2.1)) (f3_laws_FnPictures.J7 R y17 y107 next130 s5_116 x153 false)) (next82 (IntKind.i64.wrap (s3_86 + 1)))
def f3_laws_FnPictures.J4 (R : Value → World → Prop) (y17 : Sl × Sl × Int × Int × Int × ByteArray) (next82 : (Int) → Tm) (s3_86 : Int) (y103 : Sl × Bool) (y107 : Sl × Bool) (j4_113 : Bool) : Tm :=
  T.ite j4_113 (T.ret R (.bool false)) (T.loop (fun (s : Int) next => f3_laws_FnPictures.L5 R y17 next82 s3_86 y103 y107 s (fun (z0 : Int) => next z0)) 0)
def f3_laws_FnPictures.J8 (R : Value → World → Prop) (j8_2 : Bool) : Tm :=
  T.ret R (.bool j8_2)
def f3_laws_FnPictures.L3 (R : Value → World → Prop) (y17 : Sl × Sl × Int × Int × Int × ByteArray) (y23 : Sl × Sl × Int × Bool) (s3_86 : Int) (next82 : (Int) → Tm) : Tm :=
  T.ite (decide (s3_86 < (y17.2.1.n : Int))) (T.call Try.prog 10 [.agg #[Sl.v y17.1, Sl.v y17.2.1, .int .i64 y17.2.2.1], .int .i64 s3_86] (fun (z : Sl × Bool) => .tuple #[Sl.v z.1, .bool z.2]) fun (y103 : Sl × Bool) => T.call Try.prog 10 [.agg #[Sl.v y23.1, Sl.v y23.2.1, .int .i64 y23.2.2.1], .int .i64 s3_86] (fun (z : Sl × Bool) => .tuple #[Sl.v z.1, .bool z.2]) fun (y107 : Sl × Bool) => T.ite (!y103.2) (f3_laws_FnPictures.J4 R y17 next82 s3_86 y103 y107 true) (T.ite (!y107.2) (f3_laws_FnPictures.J4 R y17 next82 s3_86 y103 y107 true) (f3_laws_FnPictures.J4 R y17 next82 s3_86 y103 y107 ((y103.1.n : Int) != (y107.1.n : Int))))) (T.call Try.prog 11 [.agg #[Sl.v y23.1, Sl.v y23.2.1, .int .i64 y23.2.2.1], .int .i64 y17.2.2.2.1, .int .i64 y17.2.2.2.2.1] (fun (z : ByteArray × Bool) => .tuple #[.string z.1, .bool z.2]) fun (y177 : ByteArray × Bool) => T.call Try.prog 12 [.agg #[Sl.v y17.1, Sl.v y17.2.1, .int .i64 y17.2.2.1]] (fun (z : Int × Bool) => .tuple #[.int .i64 z.1, .bool z.2]) fun (y181 : Int × Bool) => T.call Try.prog 12 [.agg #[Sl.v y23.1, Sl.v y23.2.1, .int .i64 y23.2.2.1]] (fun (z : Int × Bool) => .tuple #[.int .i64 z.1, .bool z.2]) fun (y185 : Int × Bool) => T.ite y177.2 (T.ite y181.2 (T.ite y185.2 (T.ite (y177.1.toList == y17.2.2.2.2.2.toList) (f3_laws_FnPictures.J8 R  (decide (y185.1 ≤ (IntKind.i64.wrap (y181.1 + y17.2.2.1))))) (f3_laws_FnPictures.J8 R  false)) (f3_laws_FnPictures.J8 R  false)) (f3_laws_FnPictures.J8 R  false)) (f3_laws_FnPictures.J8 R  false))
def f3_laws_FnPictures.J2 (R : Value → World → Prop) (y17 : Sl × Sl × Int × Int × Int × ByteArray) (y23 : Sl × Sl × Int × Bool) (j2_82 : Bool) : Tm :=
  T.ite j2_82 (T.ret R (.bool false)) (T.loop (fun (s : Int) next => f3_laws_FnPictures.L3 R y17 y23 s (fun (z0 : Int) => next z0)) 0)
def f3_laws_FnPictures.J1 (R : Value → World → Prop) (y17 : Sl × Sl × Int × Int × Int × ByteArray) (y23 : Sl × Sl × Int × Bool) (j1_59 : Bool) : Tm :=
  T.ite j1_59 (T.ret R (.bool false)) (T.ite (!y23.2.2.2) (T.ret R (.bool ((y23.2.1.n : Int) == 0))) (T.call Try.prog 8 [.agg #[Sl.v y23.1, Sl.v y23.2.1, .int .i64 y23.2.2.1]] Value.bool fun (y61 : Bool) => T.ite (!y61) (f3_laws_FnPictures.J2 R y17 y23 true) (T.call Try.prog 9 [.agg #[Sl.v y23.1, Sl.v y23.2.1, .int .i64 y23.2.2.1]] Value.bool fun (y63 : Bool) => T.ite (!y63) (f3_laws_FnPictures.J2 R y17 y23 true) (f3_laws_FnPictures.J2 R y17 y23 ((y23.2.1.n : Int) != (y17.2.1.n : Int))))))
def f3_laws_FnPictures.T (R : Value → World → Prop) (a0 : Sl) : Tm :=
  T.ite (decide (1048576 < (a0.n : Int))) (T.ret R (.bool true)) (T.call Try.prog 5 [Sl.v a0] (fun (z : Sl × Sl × Int × Int × Int × ByteArray) => .tuple #[.agg #[Sl.v z.1, Sl.v z.2.1, .int .i64 z.2.2.1], .int .i64 z.2.2.2.1, .int .i64 z.2.2.2.2.1, .string z.2.2.2.2.2]) fun (y17 : Sl × Sl × Int × Int × Int × ByteArray) => T.call Try.prog 6 [.agg #[Sl.v y17.1, Sl.v y17.2.1, .int .i64 y17.2.2.1], .int .i64 y17.2.2.2.1, .int .i64 y17.2.2.2.2.1, .string y17.2.2.2.2.2] (fun (z : Sl × Sl × Int × Bool) => .tuple #[.agg #[Sl.v z.1, Sl.v z.2.1, .int .i64 z.2.2.1], .bool z.2.2.2]) fun (y23 : Sl × Sl × Int × Bool) => T.call Try.prog 7 [.agg #[Sl.v y17.1, Sl.v y17.2.1, .int .i64 y17.2.2.1], .int .i64 y17.2.2.2.1, .int .i64 y17.2.2.2.2.1, .string y17.2.2.2.2.2] (fun (z : Sl × Sl × Int × Bool) => .tuple #[.agg #[Sl.v z.1, Sl.v z.2.1, .int .i64 z.2.2.1], .bool z.2.2.2]) fun (y29 : Sl × Sl × Int × Bool) => T.ite (!(y23.2.2.2 == y29.2.2.2)) (f3_laws_FnPictures.J1 R y17 y23 true) (T.callq Try.prog 8 [.agg #[Sl.v y17.1, Sl.v y17.2.1, .int .i64 y17.2.2.1]] Value.bool fun (y39 : Bool) => T.callq Try.prog 9 [.agg #[Sl.v y17.1, Sl.v y17.2.1, .int .i64 y17.2.2.1]] Value.bool fun (y40 : Bool) => f3_laws_FnPictures.J1 R y17 y23 (!(y39 == y40))))
set_option maxHeartbeats 4000000 in
set_option maxRecDepth 100000 in
theorem f3_laws_FnPictures.ok (R : Value → World → Prop) (a0 : Sl) (w : World) (h : Aft w (fun _ => False) (f3_laws_FnPictures.T R a0)) :
    Calls Try.prog 3 (List.toArray [Sl.v a0]) w fun e w' => ∃ v, e = .returned v ∧ R v w' := by
  refine enter 177 Try.func3 rfl rfl rfl ?_
  have B := Bx.nil w
  have H := h
  clear h
  refine c_seq (fun Q3 n1 o2 => ?_)
  refine c_region ?_
  refine stp (v := .bool false) rfl rfl (r_assign rfl rfl) ?_
  refine fin ?_
  refine n1 _ _ ?_
  refine c_seq (fun Q6 n4 o5 => ?_)
  refine c_seq (fun Q9 n7 o8 => ?_)
  refine c_region ?_
  refine stp (v := Sl.v a0) rfl rfl (r_move rfl rfl) ?_
  refine stp (v := .int .i64 (a0.n : Int)) rfl rfl (r_builtin (vs := [Sl.v a0]) rfl rfl (fun _ => lenl Try.underlying22)) ?_
  refine stp (v := .bool (decide (1048576 < (a0.n : Int)))) rfl rfl (r_gtr (a := (a0.n : Int)) (b := 1048576) rfl rfl rfl) ?_
  refine fin ?_
  refine n7 _ _ ?_
  refine c_cond (b := decide (1048576 < (a0.n : Int))) rfl (fun hb10 => ?_) (fun hb10 => ?_)
  · replace H := at_itet hb10 H
    refine c_seq (fun Q13 n11 o12 => ?_)
    refine c_region ?_
    refine stp (v := .bool true) rfl rfl (r_assign rfl rfl) ?_
    refine fin ?_
    refine n11 _ _ ?_
    refine c_ret (o5 _ _ _ nofun ((done (vs := [.bool true]) (.tmp rfl .nil) rfl ⟨_, rfl, H.now⟩)))
  · replace H := at_itef hb10 H
    refine c_skip ?_
    refine n4 _ _ ?_
    refine c_seq (fun Q16 n14 o15 => ?_)
    refine c_region ?_
    refine stp (v := Sl.v a0) rfl rfl (r_move rfl rfl) ?_
    refine stpc rfl rfl (r_call (vs := [Sl.v a0]) rfl rfl (ca5 _ _)) ?_
    refine at_call B H (fun y17 w B H => ?_)
    refine stp (v := .tuple #[.agg #[Sl.v y17.1, Sl.v y17.2.1, .int .i64 y17.2.2.1], .int .i64 y17.2.2.2.1, .int .i64 y17.2.2.2.2.1, .string y17.2.2.2.2.2]) rfl rfl (r_move rfl rfl) ?_
    refine stp (v := .agg #[Sl.v y17.1, Sl.v y17.2.1, .int .i64 y17.2.2.1]) rfl rfl (r_extract (v1 := .tuple #[.agg #[Sl.v y17.1, Sl.v y17.2.1, .int .i64 y17.2.2.1], .int .i64 y17.2.2.2.1, .int .i64 y17.2.2.2.2.1, .string y17.2.2.2.2.2]) rfl rfl rfl) ?_
    refine stp (v := .int .i64 y17.2.2.2.1) rfl rfl (r_extract (v1 := .tuple #[.agg #[Sl.v y17.1, Sl.v y17.2.1, .int .i64 y17.2.2.1], .int .i64 y17.2.2.2.1, .int .i64 y17.2.2.2.2.1, .string y17.2.2.2.2.2]) rfl rfl rfl) ?_
    refine stp (v := .int .i64 y17.2.2.2.2.1) rfl rfl (r_extract (v1 := .tuple #[.agg #[Sl.v y17.1, Sl.v y17.2.1, .int .i64 y17.2.2.1], .int .i64 y17.2.2.2.1, .int .i64 y17.2.2.2.2.1, .string y17.2.2.2.2.2]) rfl rfl rfl) ?_
    refine stp (v := .string y17.2.2.2.2.2) rfl rfl (r_extract (v1 := .tuple #[.agg #[Sl.v y17.1, Sl.v y17.2.1, .int .i64 y17.2.2.1], .int .i64 y17.2.2.2.1, .int .i64 y17.2.2.2.2.1, .string y17.2.2.2.2.2]) rfl rfl rfl) ?_
    obtain ⟨w18, N, g19, hw, hg, B, H⟩ := B.new H 26 #[Sl.v Sl.nil, Sl.v Sl.nil, .int .i64 0]
    refine stp (v := .pointer (some ⟨g19, 0, none⟩)) (w' := w18) rfl rfl (r_alloc rfl (alloc_run (al26 _) hw hg)) ?_
    clear hw hg
    obtain ⟨w2, hr, B, H⟩ := B.stn H (i := 0) (T := 26) (cs' := #[Sl.v y17.1, Sl.v y17.2.1, .int .i64 y17.2.2.1]) (ad := ⟨g19, 0, none⟩) rfl rfl rfl rfl sz26
    refine stp0 rfl rfl (r_store (v1 := .pointer (some ⟨g19, 0, none⟩)) (v2 := .agg #[Sl.v y17.1, Sl.v y17.2.1, .int .i64 y17.2.2.1]) rfl rfl rfl hr) ?_
    replace B : Bx _ _ [⟨g19, 26, #[Sl.v y17.1, Sl.v y17.2.1, .int .i64 y17.2.2.1]⟩] := B
    clear hr
    refine stp (v := .int .i64 y17.2.2.2.1) rfl rfl (r_assign rfl rfl) ?_
    refine stp (v := .int .i64 y17.2.2.2.2.1) rfl rfl (r_assign rfl rfl) ?_
    refine stp (v := .string y17.2.2.2.2.2) rfl rfl (r_assign rfl rfl) ?_
    refine fin ?_
    refine n14 _ _ ?_
    refine c_seq (fun Q22 n20 o21 => ?_)
    refine c_region ?_
    refine stp (v := .agg #[Sl.v y17.1, Sl.v y17.2.1, .int .i64 y17.2.2.1]) rfl rfl (r_load (v1 := .pointer (some ⟨g19, 0, none⟩)) rfl rfl (bxn (B.get 0 rfl) Try.underlying26 rfl sz26)) ?_
    refine stp (v := .int .i64 y17.2.2.2.1) rfl rfl (r_move rfl rfl) ?_
    refine stp (v := .int .i64 y17.2.2.2.2.1) rfl rfl (r_move rfl rfl) ?_
    refine stp (v := .string y17.2.2.2.2.2) rfl rfl (r_move rfl rfl) ?_
    refine stpc rfl rfl (r_call (vs := [.agg #[Sl.v y17.1, Sl.v y17.2.1, .int .i64 y17.2.2.1], .int .i64 y17.2.2.2.1, .int .i64 y17.2.2.2.2.1, .string y17.2.2.2.2.2]) rfl rfl (ca6 _ _)) ?_
    refine at_call B H (fun y23 w B H => ?_)
    refine stp (v := .tuple #[.agg #[Sl.v y23.1, Sl.v y23.2.1, .int .i64 y23.2.2.1], .bool y23.2.2.2]) rfl rfl (r_move rfl rfl) ?_
    refine stp (v := .agg #[Sl.v y23.1, Sl.v y23.2.1, .int .i64 y23.2.2.1]) rfl rfl (r_extract (v1 := .tuple #[.agg #[Sl.v y23.1, Sl.v y23.2.1, .int .i64 y23.2.2.1], .bool y23.2.2.2]) rfl rfl rfl) ?_
    refine stp (v := .bool y23.2.2.2) rfl rfl (r_extract (v1 := .tuple #[.agg #[Sl.v y23.1, Sl.v y23.2.1, .int .i64 y23.2.2.1], .bool y23.2.2.2]) rfl rfl rfl) ?_
    obtain ⟨w24, N, g25, hw, hg, B, H⟩ := B.new H 26 #[Sl.v Sl.nil, Sl.v Sl.nil, .int .i64 0]
    refine stp (v := .pointer (some ⟨g25, 0, none⟩)) (w' := w24) rfl rfl (r_alloc rfl (alloc_run (al26 _) hw hg)) ?_
    clear hw hg
    obtain ⟨w2, hr, B, H⟩ := B.stn H (i := 0) (T := 26) (cs' := #[Sl.v y23.1, Sl.v y23.2.1, .int .i64 y23.2.2.1]) (ad := ⟨g25, 0, none⟩) rfl rfl rfl rfl sz26
    refine stp0 rfl rfl (r_store (v1 := .pointer (some ⟨g25, 0, none⟩)) (v2 := .agg #[Sl.v y23.1, Sl.v y23.2.1, .int .i64 y23.2.2.1]) rfl rfl rfl hr) ?_
    replace B : Bx _ _ [⟨g25, 26, #[Sl.v y23.1, Sl.v y23.2.1, .int .i64 y23.2.2.1]⟩, ⟨g19, 26, #[Sl.v y17.1, Sl.v y17.2.1, .int .i64 y17.2.2.1]⟩] := B
    clear hr
    refine stp (v := .bool y23.2.2.2) rfl rfl (r_assign rfl rfl) ?_
    refine fin ?_
    refine n20 _ _ ?_
    refine c_seq (fun Q28 n26 o27 => ?_)
    refine c_region ?_
    refine stp (v := .agg #[Sl.v y17.1, Sl.v y17.2.1, .int .i64 y17.2.2.1]) rfl rfl (r_load (v1 := .pointer (some ⟨g19, 0, none⟩)) rfl rfl (bxn (B.get 1 rfl) Try.underlying26 rfl sz26)) ?_
    refine stp (v := .int .i64 y17.2.2.2.1) rfl rfl (r_move rfl rfl) ?_
    refine stp (v := .int .i64 y17.2.2.2.2.1) rfl rfl (r_move rfl rfl) ?_
    refine stp (v := .string y17.2.2.2.2.2) rfl rfl (r_move rfl rfl) ?_
    refine stpc rfl rfl (r_call (vs := [.agg #[Sl.v y17.1, Sl.v y17.2.1, .int .i64 y17.2.2.1], .int .i64 y17.2.2.2.1, .int .i64 y17.2.2.2.2.1, .string y17.2.2.2.2.2]) rfl rfl (ca7 _ _)) ?_
    refine at_call B H (fun y29 w B H => ?_)
    refine stp (v := .tuple #[.agg #[Sl.v y29.1, Sl.v y29.2.1, .int .i64 y29.2.2.1], .bool y29.2.2.2]) rfl rfl (r_move rfl rfl) ?_
    refine stp (v := .agg #[Sl.v y29.1, Sl.v y29.2.1, .int .i64 y29.2.2.1]) rfl rfl (r_extract (v1 := .tuple #[.agg #[Sl.v y29.1, Sl.v y29.2.1, .int .i64 y29.2.2.1], .bool y29.2.2.2]) rfl rfl rfl) ?_
    refine stp (v := .bool y29.2.2.2) rfl rfl (r_extract (v1 := .tuple #[.agg #[Sl.v y29.1, Sl.v y29.2.1, .int .i64 y29.2.2.1], .bool y29.2.2.2]) rfl rfl rfl) ?_
    obtain ⟨w30, N, g31, hw, hg, B, H⟩ := B.new H 26 #[Sl.v Sl.nil, Sl.v Sl.nil, .int .i64 0]
    refine stp (v := .pointer (some ⟨g31, 0, none⟩)) (w' := w30) rfl rfl (r_alloc rfl (alloc_run (al26 _) hw hg)) ?_
    clear hw hg
    obtain ⟨w2, hr, B, H⟩ := B.stn H (i := 0) (T := 26) (cs' := #[Sl.v y29.1, Sl.v y29.2.1, .int .i64 y29.2.2.1]) (ad := ⟨g31, 0, none⟩) rfl rfl rfl rfl sz26
    refine stp0 rfl rfl (r_store (v1 := .pointer (some ⟨g31, 0, none⟩)) (v2 := .agg #[Sl.v y29.1, Sl.v y29.2.1, .int .i64 y29.2.2.1]) rfl rfl rfl hr) ?_
    replace B : Bx _ _ [⟨g31, 26, #[Sl.v y29.1, Sl.v y29.2.1, .int .i64 y29.2.2.1]⟩, ⟨g25, 26, #[Sl.v y23.1, Sl.v y23.2.1, .int .i64 y23.2.2.1]⟩, ⟨g19, 26, #[Sl.v y17.1, Sl.v y17.2.1, .int .i64 y17.2.2.1]⟩] := B
    clear hr
    refine stp (v := .bool y29.2.2.2) rfl rfl (r_assign rfl rfl) ?_
    refine fin ?_
    refine n26 _ _ ?_
    refine c_seq (fun Q34 n32 o33 => ?_)
    refine c_seqj (fun a w => ∃ (j1_59 : Bool) (g : Nat → Value) (N : NP), a = A 177 (updl g [(3, .pointer (some ⟨g19, 0, none⟩)), (4, .int .i64 y17.2.2.2.1), (5, .int .i64 y17.2.2.2.2.1), (6, .string y17.2.2.2.2.2), (7, .pointer (some ⟨g25, 0, none⟩)), (8, .bool y23.2.2.2), (59, .bool j1_59)]) ∧ Bx w N [⟨g31, 26, #[Sl.v y29.1, Sl.v y29.2.1, .int .i64 y29.2.2.1]⟩, ⟨g25, 26, #[Sl.v y23.1, Sl.v y23.2.1, .int .i64 y23.2.2.1]⟩, ⟨g19, 26, #[Sl.v y17.1, Sl.v y17.2.1, .int .i64 y17.2.2.1]⟩] ∧ Aft w N (f3_laws_FnPictures.J1 R y17 y23 j1_59)) (fun Q37 n35 o36 => ?_) ?_
    ·
      refine c_quiet rfl (by kernel_rfl) ?_
      refine qstp (v := .bool y23.2.2.2) rfl rfl (fun w_ hb_ => (r_move rfl rfl)) ?_
      refine qstp (v := .bool y29.2.2.2) rfl rfl (fun w_ hb_ => (r_move rfl rfl)) ?_
      refine qstp (v := .bool (!(y23.2.2.2 == y29.2.2.2))) rfl rfl (fun w_ hb_ => (r_bneq (s := y23.2.2.2) (t := y29.2.2.2) rfl rfl rfl Try.underlying4)) ?_
      refine qstp (v := .bool (!(y23.2.2.2 == y29.2.2.2))) rfl rfl (fun w_ hb_ => (r_move rfl rfl)) ?_
      rcases Bool.eq_false_or_eq_true (!(y23.2.2.2 == y29.2.2.2)) with hb38 | hb38
      · replace H := at_itet hb38 H
        refine qskp (un rfl rfl rfl rfl (congrArg Value.bool hb38) nofun) rfl ?_
        refine qskp (un rfl rfl rfl rfl (congrArg Value.bool hb38) nofun) rfl ?_
        refine qskp (un rfl rfl rfl rfl (congrArg Value.bool hb38) nofun) rfl ?_
        refine qskp (un rfl rfl rfl rfl (congrArg Value.bool hb38) nofun) rfl ?_
        refine qskp (un rfl rfl rfl rfl (congrArg Value.bool hb38) nofun) rfl ?_
        refine qstp (v := .bool true) rfl rfl (fun w_ hb_ => (r_pickt rfl (congrArg Value.bool hb38) rfl)) ?_
        refine qfin (fun w hb => ?_)
        replace B := B.quiet (Qt.of_below hb)
        replace H := H.step (Nz.of_below hb)
        exact n35 _ _ ⟨true, _, _, fr_self rfl, B, H⟩
      · replace H := at_itef hb38 H
        refine qstp (v := .agg #[Sl.v y17.1, Sl.v y17.2.1, .int .i64 y17.2.2.1]) (wn rfl rfl rfl rfl (congrArg Value.bool hb38)) rfl (fun w_ hb_ => (r_load (v1 := .pointer (some ⟨g19, 0, none⟩)) rfl rfl (bxn ((B.quiet (Qt.of_below hb_)).get 2 rfl) Try.underlying26 rfl sz26))) ?_
        obtain ⟨y39, hC, H'⟩ := at_callq H
        replace H := H'; clear H'
        refine qstpc (v := .bool y39) (wn rfl rfl rfl rfl (congrArg Value.bool hb38)) rfl (fun w_ hb_ => r_call (vs := [.agg #[Sl.v y17.1, Sl.v y17.2.1, .int .i64 y17.2.2.1]]) rfl rfl (ca8 _ _)) (fun w_ hb_ => hC w_ hb_) ?_
        clear hC
        refine qstp (v := .agg #[Sl.v y17.1, Sl.v y17.2.1, .int .i64 y17.2.2.1]) (wn rfl rfl rfl rfl (congrArg Value.bool hb38)) rfl (fun w_ hb_ => (r_load (v1 := .pointer (some ⟨g19, 0, none⟩)) rfl rfl (bxn ((B.quiet (Qt.of_below hb_)).get 2 rfl) Try.underlying26 rfl sz26))) ?_
        obtain ⟨y40, hC, H'⟩ := at_callq H
        replace H := H'; clear H'
        refine qstpc (v := .bool y40) (wn rfl rfl rfl rfl (congrArg Value.bool hb38)) rfl (fun w_ hb_ => r_call (vs := [.agg #[Sl.v y17.1, Sl.v y17.2.1, .int .i64 y17.2.2.1]]) rfl rfl (ca9 _ _)) (fun w_ hb_ => hC w_ hb_) ?_
        clear hC
        refine qstp (v := .bool (!(y39 == y40))) (wn rfl rfl rfl rfl (congrArg Value.bool hb38)) rfl (fun w_ hb_ => (r_bneq (s := y39) (t := y40) rfl rfl rfl Try.underlying4)) ?_
        refine qstp (v := .bool (!(y39 == y40))) rfl rfl (fun w_ hb_ => (r_pickf rfl (congrArg Value.bool hb38) rfl)) ?_
        refine qfin (fun w hb => ?_)
        replace B := B.quiet (Qt.of_below hb)
        replace H := H.step (Nz.of_below hb)
        exact n35 _ _ ⟨!(y39 == y40), _, _, fr_self rfl, B, H⟩
    ·
      rintro _ w ⟨j1_59, g, N, rfl, B, H⟩
      refine c_cond (b := j1_59) rfl (fun hb41 => ?_) (fun hb41 => ?_)
      · replace H := at_itet hb41 H
        refine c_seq (fun Q44 n42 o43 => ?_)
        refine c_region ?_
        refine stp (v := .bool false) rfl rfl (r_assign rfl rfl) ?_
        refine fin ?_
        refine n42 _ _ ?_
        refine c_ret (o33 _ _ _ nofun ((done (vs := [.bool false]) (.tmp rfl .nil) rfl ⟨_, rfl, H.now⟩)))
      · replace H := at_itef hb41 H
        refine c_skip ?_
        refine n32 _ _ ?_
        refine c_seq (fun Q47 n45 o46 => ?_)
        refine c_seq (fun Q50 n48 o49 => ?_)
        refine c_region ?_
        refine stp (v := .bool y23.2.2.2) rfl rfl (r_move rfl rfl) ?_
        refine stp (v := .bool (!y23.2.2.2)) rfl rfl (r_not (b := y23.2.2.2) rfl rfl) ?_
        refine fin ?_
        refine n48 _ _ ?_
        refine c_cond (b := !y23.2.2.2) rfl (fun hb51 => ?_) (fun hb51 => ?_)
        · replace H := at_itet hb51 H
          refine c_seq (fun Q54 n52 o53 => ?_)
          refine c_region ?_
          refine stp (v := .pointer (some ⟨g25, 1, none⟩)) rfl rfl (r_fieldAddr (v1 := .pointer (some ⟨g25, 0, none⟩)) rfl rfl (fld26_1 _ _)) ?_
          refine stp (v := Sl.v y23.2.1) rfl rfl (r_load (v1 := .pointer (some ⟨g25, 1, none⟩)) rfl rfl (ld1 Try.underlying24 rfl (bx1 (B.get 1 rfl) rfl rfl))) ?_
          refine stp (v := .int .i64 (y23.2.1.n : Int)) rfl rfl (r_builtin (vs := [Sl.v y23.2.1]) rfl rfl (fun _ => lenl Try.underlying24)) ?_
          refine stp (v := .bool ((y23.2.1.n : Int) == 0)) rfl rfl (r_eql (a := (y23.2.1.n : Int)) (b := 0) rfl rfl rfl) ?_
          refine stp (v := .bool ((y23.2.1.n : Int) == 0)) rfl rfl (r_assign rfl rfl) ?_
          refine fin ?_
          refine n52 _ _ ?_
          refine c_ret (o46 _ _ _ nofun ((done (vs := [.bool ((y23.2.1.n : Int) == 0)]) (.tmp rfl .nil) rfl ⟨_, rfl, H.now⟩)))
        · replace H := at_itef hb51 H
          refine c_skip ?_
          refine n45 _ _ ?_
          refine c_seq (fun Q57 n55 o56 => ?_)
          refine c_seqj (fun a w => ∃ (j2_82 : Bool) (g : Nat → Value) (N : NP), a = A 177 (updl g [(3, .pointer (some ⟨g19, 0, none⟩)), (4, .int .i64 y17.2.2.2.1), (5, .int .i64 y17.2.2.2.2.1), (6, .string y17.2.2.2.2.2), (7, .pointer (some ⟨g25, 0, none⟩)), (82, .bool j2_82)]) ∧ Bx w N [⟨g31, 26, #[Sl.v y29.1, Sl.v y29.2.1, .int .i64 y29.2.2.1]⟩, ⟨g25, 26, #[Sl.v y23.1, Sl.v y23.2.1, .int .i64 y23.2.2.1]⟩, ⟨g19, 26, #[Sl.v y17.1, Sl.v y17.2.1, .int .i64 y17.2.2.1]⟩] ∧ Aft w N (f3_laws_FnPictures.J2 R y17 y23 j2_82)) (fun Q60 n58 o59 => ?_) ?_
          ·
            refine c_region ?_
            refine stp (v := .agg #[Sl.v y23.1, Sl.v y23.2.1, .int .i64 y23.2.2.1]) rfl rfl (r_load (v1 := .pointer (some ⟨g25, 0, none⟩)) rfl rfl (bxn (B.get 1 rfl) Try.underlying26 rfl sz26)) ?_
            refine stpc rfl rfl (r_call (vs := [.agg #[Sl.v y23.1, Sl.v y23.2.1, .int .i64 y23.2.2.1]]) rfl rfl (ca8 _ _)) ?_
            refine at_call B H (fun y61 w B H => ?_)
            refine stp (v := .bool (!y61)) rfl rfl (r_not (b := y61) rfl rfl) ?_
            refine stp (v := .bool (!y61)) rfl rfl (r_move rfl rfl) ?_
            rcases Bool.eq_false_or_eq_true (!y61) with hb62 | hb62
            · replace H := at_itet hb62 H
              refine skp (un rfl rfl rfl rfl (congrArg Value.bool hb62) nofun) rfl ?_
              refine skp (un rfl rfl rfl rfl (congrArg Value.bool hb62) nofun) rfl ?_
              refine skp (un rfl rfl rfl rfl (congrArg Value.bool hb62) nofun) rfl ?_
              refine stp (v := .bool true) rfl rfl (r_pickt rfl (congrArg Value.bool hb62) rfl) ?_
              refine stp (v := .bool true) rfl rfl (r_move rfl rfl) ?_
              refine skp (un rfl rfl rfl rfl rfl nofun) rfl ?_
              refine skp (un rfl rfl rfl rfl rfl nofun) rfl ?_
              refine skp (un rfl rfl rfl rfl rfl nofun) rfl ?_
              refine skp (un rfl rfl rfl rfl rfl nofun) rfl ?_
              refine skp (un rfl rfl rfl rfl rfl nofun) rfl ?_
              refine skp (un rfl rfl rfl rfl rfl nofun) rfl ?_
              refine skp (un rfl rfl rfl rfl rfl nofun) rfl ?_
              refine stp (v := .bool true) rfl rfl (r_pickt rfl rfl rfl) ?_
              refine fin ?_
              exact n58 _ _ ⟨true, _, _, fr_self rfl, B, H⟩
            · replace H := at_itef hb62 H
              refine stp (v := .agg #[Sl.v y23.1, Sl.v y23.2.1, .int .i64 y23.2.2.1]) (wn rfl rfl rfl rfl (congrArg Value.bool hb62)) rfl (r_load (v1 := .pointer (some ⟨g25, 0, none⟩)) rfl rfl (bxn (B.get 1 rfl) Try.underlying26 rfl sz26)) ?_
              refine stpc (wn rfl rfl rfl rfl (congrArg Value.bool hb62)) rfl (r_call (vs := [.agg #[Sl.v y23.1, Sl.v y23.2.1, .int .i64 y23.2.2.1]]) rfl rfl (ca9 _ _)) ?_
              refine at_call B H (fun y63 w B H => ?_)
              refine stp (v := .bool (!y63)) (wn rfl rfl rfl rfl (congrArg Value.bool hb62)) rfl (r_not (b := y63) rfl rfl) ?_
              refine stp (v := .bool (!y63)) rfl rfl (r_pickf rfl (congrArg Value.bool hb62) rfl) ?_
              refine stp (v := .bool (!y63)) rfl rfl (r_move rfl rfl) ?_
              rcases Bool.eq_false_or_eq_true (!y63) with hb64 | hb64
              · replace H := at_itet hb64 H
                refine skp (un rfl rfl rfl rfl (congrArg Value.bool hb64) nofun) rfl ?_
                refine skp (un rfl rfl rfl rfl (congrArg Value.bool hb64) nofun) rfl ?_
                refine skp (un rfl rfl rfl rfl (congrArg Value.bool hb64) nofun) rfl ?_
                refine skp (un rfl rfl rfl rfl (congrArg Value.bool hb64) nofun) rfl ?_
                refine skp (un rfl rfl rfl rfl (congrArg Value.bool hb64) nofun) rfl ?_
                refine skp (un rfl rfl rfl rfl (congrArg Value.bool hb64) nofun) rfl ?_
                refine skp (un rfl rfl rfl rfl (congrArg Value.bool hb64) nofun) rfl ?_
                refine stp (v := .bool true) rfl rfl (r_pickt rfl (congrArg Value.bool hb64) rfl) ?_
                refine fin ?_
                exact n58 _ _ ⟨true, _, _, fr_self rfl, B, H⟩
              · replace H := at_itef hb64 H
                refine stp (v := .pointer (some ⟨g25, 1, none⟩)) (wn rfl rfl rfl rfl (congrArg Value.bool hb64)) rfl (r_fieldAddr (v1 := .pointer (some ⟨g25, 0, none⟩)) rfl rfl (fld26_1 _ _)) ?_
                refine stp (v := Sl.v y23.2.1) (wn rfl rfl rfl rfl (congrArg Value.bool hb64)) rfl (r_load (v1 := .pointer (some ⟨g25, 1, none⟩)) rfl rfl (ld1 Try.underlying24 rfl (bx1 (B.get 1 rfl) rfl rfl))) ?_
                refine stp (v := .int .i64 (y23.2.1.n : Int)) (wn rfl rfl rfl rfl (congrArg Value.bool hb64)) rfl (r_builtin (vs := [Sl.v y23.2.1]) rfl rfl (fun _ => lenl Try.underlying24)) ?_
                refine stp (v := .pointer (some ⟨g19, 1, none⟩)) (wn rfl rfl rfl rfl (congrArg Value.bool hb64)) rfl (r_fieldAddr (v1 := .pointer (some ⟨g19, 0, none⟩)) rfl rfl (fld26_1 _ _)) ?_
                refine stp (v := Sl.v y17.2.1) (wn rfl rfl rfl rfl (congrArg Value.bool hb64)) rfl (r_load (v1 := .pointer (some ⟨g19, 1, none⟩)) rfl rfl (ld1 Try.underlying24 rfl (bx1 (B.get 2 rfl) rfl rfl))) ?_
                refine stp (v := .int .i64 (y17.2.1.n : Int)) (wn rfl rfl rfl rfl (congrArg Value.bool hb64)) rfl (r_builtin (vs := [Sl.v y17.2.1]) rfl rfl (fun _ => lenl Try.underlying24)) ?_
                refine stp (v := .bool ((y23.2.1.n : Int) != (y17.2.1.n : Int))) (wn rfl rfl rfl rfl (congrArg Value.bool hb64)) rfl (r_neq (a := (y23.2.1.n : Int)) (b := (y17.2.1.n : Int)) rfl rfl rfl) ?_
                refine stp (v := .bool ((y23.2.1.n : Int) != (y17.2.1.n : Int))) rfl rfl (r_pickf rfl (congrArg Value.bool hb64) rfl) ?_
                refine fin ?_
                exact n58 _ _ ⟨(y23.2.1.n : Int) != (y17.2.1.n : Int), _, _, fr_self rfl, B, H⟩
          ·
            rintro _ w ⟨j2_82, g, N, rfl, B, H⟩
            refine c_cond (b := j2_82) rfl (fun hb65 => ?_) (fun hb65 => ?_)
            · replace H := at_itet hb65 H
              refine c_seq (fun Q68 n66 o67 => ?_)
              refine c_region ?_
              refine stp (v := .bool false) rfl rfl (r_assign rfl rfl) ?_
              refine fin ?_
              refine n66 _ _ ?_
              refine c_ret (o56 _ _ _ nofun ((done (vs := [.bool false]) (.tmp rfl .nil) rfl ⟨_, rfl, H.now⟩)))
            · replace H := at_itef hb65 H
              refine c_skip ?_
              refine n55 _ _ ?_
              refine c_seq (fun Q71 n69 o70 => ?_)
              refine c_seq (fun Q74 n72 o73 => ?_)
              refine c_region ?_
              refine stp (v := .pointer (some ⟨g19, 1, none⟩)) rfl rfl (r_fieldAddr (v1 := .pointer (some ⟨g19, 0, none⟩)) rfl rfl (fld26_1 _ _)) ?_
              refine stp (v := Sl.v y17.2.1) rfl rfl (r_load (v1 := .pointer (some ⟨g19, 1, none⟩)) rfl rfl (ld1 Try.underlying24 rfl (bx1 (B.get 2 rfl) rfl rfl))) ?_
              refine stp (v := .int .i64 (y17.2.1.n : Int)) rfl rfl (r_builtin (vs := [Sl.v y17.2.1]) rfl rfl (fun _ => lenl Try.underlying24)) ?_
              refine stp (v := .int .i64 0) rfl rfl (r_move rfl rfl) ?_
              refine fin ?_
              refine n72 _ _ ?_
              refine c_block (fun Q78 n75 x77 o76 => ?_)
              refine c_loop (σ := Int) (s0 := 0) (fun s => [(3, .pointer (some ⟨g19, 0, none⟩)), (4, .int .i64 y17.2.2.2.1), (5, .int .i64 y17.2.2.2.2.1), (6, .string y17.2.2.2.2.2), (7, .pointer (some ⟨g25, 0, none⟩)), (85, .int .i64 (y17.2.1.n : Int)), (86, .int .i64 s)]) (fun s => [⟨g31, 26, #[Sl.v y29.1, Sl.v y29.2.1, .int .i64 y29.2.2.1]⟩, ⟨g25, 26, #[Sl.v y23.1, Sl.v y23.2.1, .int .i64 y23.2.2.1]⟩, ⟨g19, 26, #[Sl.v y17.1, Sl.v y17.2.1, .int .i64 y17.2.2.1]⟩]) B H rfl ?_
              rintro Q81 next82 s3_86 g w N nx79 o80 B H
              refine c_seq (fun Q85 n83 o84 => ?_)
              refine c_region ?_
              refine stp (v := .bool (decide (s3_86 < (y17.2.1.n : Int)))) rfl rfl (r_lss (a := s3_86) (b := (y17.2.1.n : Int)) rfl rfl rfl) ?_
              refine fin ?_
              refine n83 _ _ ?_
              refine c_seq (fun Q88 n86 o87 => ?_)
              refine c_cond (b := decide (s3_86 < (y17.2.1.n : Int))) rfl (fun hb89 => ?_) (fun hb89 => ?_)
              · replace H := at_itet hb89 H
                refine c_skip ?_
                refine n86 _ _ ?_
                refine c_seq (fun Q92 n90 o91 => ?_)
                refine c_block (fun Q96 n93 x95 o94 => ?_)
                refine c_seq (fun Q99 n97 o98 => ?_)
                refine c_region ?_
                refine stp (v := .int .i64 s3_86) rfl rfl (r_move rfl rfl) ?_
                refine stp (v := .int .i64 s3_86) rfl rfl (r_assign rfl rfl) ?_
                refine fin ?_
                refine n97 _ _ ?_
                refine c_seq (fun Q102 n100 o101 => ?_)
                refine c_region ?_
                refine stp (v := .agg #[Sl.v y17.1, Sl.v y17.2.1, .int .i64 y17.2.2.1]) rfl rfl (r_load (v1 := .pointer (some ⟨g19, 0, none⟩)) rfl rfl (bxn (B.get 2 rfl) Try.underlying26 rfl sz26)) ?_
                refine stp (v := .int .i64 s3_86) rfl rfl (r_move rfl rfl) ?_
                refine stpc rfl rfl (r_call (vs := [.agg #[Sl.v y17.1, Sl.v y17.2.1, .int .i64 y17.2.2.1], .int .i64 s3_86]) rfl rfl (ca10 _ _)) ?_
                refine at_call B H (fun y103 w B H => ?_)
                refine stp (v := .tuple #[Sl.v y103.1, .bool y103.2]) rfl rfl (r_move rfl rfl) ?_
                refine stp (v := Sl.v y103.1) rfl rfl (r_extract (v1 := .tuple #[Sl.v y103.1, .bool y103.2]) rfl rfl rfl) ?_
                refine stp (v := .bool y103.2) rfl rfl (r_extract (v1 := .tuple #[Sl.v y103.1, .bool y103.2]) rfl rfl rfl) ?_
                refine stp (v := Sl.v y103.1) rfl rfl (r_assign rfl rfl) ?_
                refine stp (v := .bool y103.2) rfl rfl (r_assign rfl rfl) ?_
                refine fin ?_
                refine n100 _ _ ?_
                refine c_seq (fun Q106 n104 o105 => ?_)
                refine c_region ?_
                refine stp (v := .agg #[Sl.v y23.1, Sl.v y23.2.1, .int .i64 y23.2.2.1]) rfl rfl (r_load (v1 := .pointer (some ⟨g25, 0, none⟩)) rfl rfl (bxn (B.get 1 rfl) Try.underlying26 rfl sz26)) ?_
                refine stp (v := .int .i64 s3_86) rfl rfl (r_move rfl rfl) ?_
                refine stpc rfl rfl (r_call (vs := [.agg #[Sl.v y23.1, Sl.v y23.2.1, .int .i64 y23.2.2.1], .int .i64 s3_86]) rfl rfl (ca10 _ _)) ?_
                refine at_call B H (fun y107 w B H => ?_)
                refine stp (v := .tuple #[Sl.v y107.1, .bool y107.2]) rfl rfl (r_move rfl rfl) ?_
                refine stp (v := Sl.v y107.1) rfl rfl (r_extract (v1 := .tuple #[Sl.v y107.1, .bool y107.2]) rfl rfl rfl) ?_
                refine stp (v := .bool y107.2) rfl rfl (r_extract (v1 := .tuple #[Sl.v y107.1, .bool y107.2]) rfl rfl rfl) ?_
                refine stp (v := Sl.v y107.1) rfl rfl (r_assign rfl rfl) ?_
                refine stp (v := .bool y107.2) rfl rfl (r_assign rfl rfl) ?_
                refine fin ?_
                refine n104 _ _ ?_
                refine c_seq (fun Q110 n108 o109 => ?_)
                refine c_seqj (fun a w => ∃ (j4_113 : Bool) (g : Nat → Value) (N : NP), a = A 177 (updl g [(3, .pointer (some ⟨g19, 0, none⟩)), (4, .int .i64 y17.2.2.2.1), (5, .int .i64 y17.2.2.2.2.1), (6, .string y17.2.2.2.2.2), (7, .pointer (some ⟨g25, 0, none⟩)), (11, .int .i64 s3_86), (12, Sl.v y103.1), (14, Sl.v y107.1), (85, .int .i64 (y17.2.1.n : Int)), (86, .int .i64 s3_86), (113, .bool j4_113)]) ∧ Bx w N [⟨g31, 26, #[Sl.v y29.1, Sl.v y29.2.1, .int .i64 y29.2.2.1]⟩, ⟨g25, 26, #[Sl.v y23.1, Sl.v y23.2.1, .int .i64 y23.2.2.1]⟩, ⟨g19, 26, #[Sl.v y17.1, Sl.v y17.2.1, .int .i64 y17.2.2.1]⟩] ∧ Aft w N (f3_laws_FnPictures.J4 R y17 (fun (z0 : Int) => next82 z0) s3_86 y103 y107 j4_113)) (fun Q113 n111 o112 => ?_) ?_
                ·
                  refine c_region ?_
                  refine stp (v := .bool y103.2) rfl rfl (r_move rfl rfl) ?_
                  refine stp (v := .bool (!y103.2)) rfl rfl (r_not (b := y103.2) rfl rfl) ?_
                  refine stp (v := .bool (!y103.2)) rfl rfl (r_move rfl rfl) ?_
                  rcases Bool.eq_false_or_eq_true (!y103.2) with hb114 | hb114
                  · replace H := at_itet hb114 H
                    refine skp (un rfl rfl rfl rfl (congrArg Value.bool hb114) nofun) rfl ?_
                    refine skp (un rfl rfl rfl rfl (congrArg Value.bool hb114) nofun) rfl ?_
                    refine stp (v := .bool true) rfl rfl (r_pickt rfl (congrArg Value.bool hb114) rfl) ?_
                    refine stp (v := .bool true) rfl rfl (r_move rfl rfl) ?_
                    refine skp (un rfl rfl rfl rfl rfl nofun) rfl ?_
                    refine skp (un rfl rfl rfl rfl rfl nofun) rfl ?_
                    refine skp (un rfl rfl rfl rfl rfl nofun) rfl ?_
                    refine skp (un rfl rfl rfl rfl rfl nofun) rfl ?_
                    refine skp (un rfl rfl rfl rfl rfl nofun) rfl ?_
                    refine stp (v := .bool true) rfl rfl (r_pickt rfl rfl rfl) ?_
                    refine fin ?_
                    exact n111 _ _ ⟨true, _, _, fr_self rfl, B, H⟩
                  · replace H := at_itef hb114 H
                    refine stp (v := .bool y107.2) (wn rfl rfl rfl rfl (congrArg Value.bool hb114)) rfl (r_move rfl rfl) ?_
                    refine stp (v := .bool (!y107.2)) (wn rfl rfl rfl rfl (congrArg Value.bool hb114)) rfl (r_not (b := y107.2) rfl rfl) ?_
                    refine stp (v := .bool (!y107.2)) rfl rfl (r_pickf rfl (congrArg Value.bool hb114) rfl) ?_
                    refine stp (v := .bool (!y107.2)) rfl rfl (r_move rfl rfl) ?_
                    rcases Bool.eq_false_or_eq_true (!y107.2) with hb115 | hb115
                    · replace H := at_itet hb115 H
                      refine skp (un rfl rfl rfl rfl (congrArg Value.bool hb115) nofun) rfl ?_
                      refine skp (un rfl rfl rfl rfl (congrArg Value.bool hb115) nofun) rfl ?_
                      refine skp (un rfl rfl rfl rfl (congrArg Value.bool hb115) nofun) rfl ?_
                      refine skp (un rfl rfl rfl rfl (congrArg Value.bool hb115) nofun) rfl ?_
                      refine skp (un rfl rfl rfl rfl (congrArg Value.bool hb115) nofun) rfl ?_
                      refine stp (v := .bool true) rfl rfl (r_pickt rfl (congrArg Value.bool hb115) rfl) ?_
                      refine fin ?_
                      exact n111 _ _ ⟨true, _, _, fr_self rfl, B, H⟩
                    · replace H := at_itef hb115 H
                      refine stp (v := Sl.v y103.1) (wn rfl rfl rfl rfl (congrArg Value.bool hb115)) rfl (r_move rfl rfl) ?_
                      refine stp (v := .int .i64 (y103.1.n : Int)) (wn rfl rfl rfl rfl (congrArg Value.bool hb115)) rfl (r_builtin (vs := [Sl.v y103.1]) rfl rfl (fun _ => lenl Try.underlying32)) ?_
                      refine stp (v := Sl.v y107.1) (wn rfl rfl rfl rfl (congrArg Value.bool hb115)) rfl (r_move rfl rfl) ?_
                      refine stp (v := .int .i64 (y107.1.n : Int)) (wn rfl rfl rfl rfl (congrArg Value.bool hb115)) rfl (r_builtin (vs := [Sl.v y107.1]) rfl rfl (fun _ => lenl Try.underlying32)) ?_
                      refine stp (v := .bool ((y103.1.n : Int) != (y107.1.n : Int))) (wn rfl rfl rfl rfl (congrArg Value.bool hb115)) rfl (r_neq (a := (y103.1.n : Int)) (b := (y107.1.n : Int)) rfl rfl rfl) ?_
                      refine stp (v := .bool ((y103.1.n : Int) != (y107.1.n : Int))) rfl rfl (r_pickf rfl (congrArg Value.bool hb115) rfl) ?_
                      refine fin ?_
                      exact n111 _ _ ⟨(y103.1.n : Int) != (y107.1.n : Int), _, _, fr_self rfl, B, H⟩
                ·
                  rintro _ w ⟨j4_113, g, N, rfl, B, H⟩
                  refine c_cond (b := j4_113) rfl (fun hb116 => ?_) (fun hb116 => ?_)
                  · replace H := at_itet hb116 H
                    refine c_seq (fun Q119 n117 o118 => ?_)
                    refine c_region ?_
                    refine stp (v := .bool false) rfl rfl (r_assign rfl rfl) ?_
                    refine fin ?_
                    refine n117 _ _ ?_
                    refine c_ret (o109 _ _ _ nofun (o94 _ _ _ nofun (by simp) (o91 _ _ _ nofun (o80 _ _ _ nofun (o76 _ _ _ nofun (by simp) (o70 _ _ _ nofun ((done (vs := [.bool false]) (.tmp rfl .nil) rfl ⟨_, rfl, H.now⟩))))))))
                  · replace H := at_itef hb116 H
                    refine c_skip ?_
                    refine n108 _ _ ?_
                    refine c_seq (fun Q122 n120 o121 => ?_)
                    refine c_region ?_
                    refine stp (v := Sl.v y103.1) rfl rfl (r_move rfl rfl) ?_
                    refine stp (v := .int .i64 (y103.1.n : Int)) rfl rfl (r_builtin (vs := [Sl.v y103.1]) rfl rfl (fun _ => lenl Try.underlying32)) ?_
                    refine stp (v := .int .i64 0) rfl rfl (r_move rfl rfl) ?_
                    refine fin ?_
                    refine n120 _ _ ?_
                    refine c_block (fun Q126 n123 x125 o124 => ?_)
                    refine c_loop (σ := Int) (s0 := 0) (fun s => [(3, .pointer (some ⟨g19, 0, none⟩)), (4, .int .i64 y17.2.2.2.1), (5, .int .i64 y17.2.2.2.2.1), (6, .string y17.2.2.2.2.2), (7, .pointer (some ⟨g25, 0, none⟩)), (11, .int .i64 s3_86), (12, Sl.v y103.1), (14, Sl.v y107.1), (85, .int .i64 (y17.2.1.n : Int)), (86, .int .i64 s3_86), (115, .int .i64 (y103.1.n : Int)), (116, .int .i64 s)]) (fun s => [⟨g31, 26, #[Sl.v y29.1, Sl.v y29.2.1, .int .i64 y29.2.2.1]⟩, ⟨g25, 26, #[Sl.v y23.1, Sl.v y23.2.1, .int .i64 y23.2.2.1]⟩, ⟨g19, 26, #[Sl.v y17.1, Sl.v y17.2.1, .int .i64 y17.2.2.1]⟩]) B H rfl ?_
                    rintro Q129 next130 s5_116 g w N nx127 o128 B H
                    refine c_seq (fun Q133 n131 o132 => ?_)
                    refine c_region ?_
                    refine stp (v := .bool (decide (s5_116 < (y103.1.n : Int)))) rfl rfl (r_lss (a := s5_116) (b := (y103.1.n : Int)) rfl rfl rfl) ?_
                    refine fin ?_
                    refine n131 _ _ ?_
                    refine c_seq (fun Q136 n134 o135 => ?_)
                    refine c_cond (b := decide (s5_116 < (y103.1.n : Int))) rfl (fun hb137 => ?_) (fun hb137 => ?_)
                    · replace H := at_itet hb137 H
                      refine c_skip ?_
                      refine n134 _ _ ?_
                      refine c_seq (fun Q140 n138 o139 => ?_)
                      refine c_block (fun Q144 n141 x143 o142 => ?_)
                      refine c_seq (fun Q147 n145 o146 => ?_)
                      refine c_region ?_
                      refine stp (v := .int .i64 s5_116) rfl rfl (r_move rfl rfl) ?_
                      refine stp (v := .int .i64 s5_116) rfl rfl (r_assign rfl rfl) ?_
                      refine fin ?_
                      refine n145 _ _ ?_
                      refine c_seq (fun Q150 n148 o149 => ?_)
                      refine c_region ?_
                      refine stp (v := Sl.v y103.1) rfl rfl (r_move rfl rfl) ?_
                      refine stp (v := .int .i64 s5_116) rfl rfl (r_move rfl rfl) ?_
                      obtain ⟨p151, p152, he, h0, h1, hpa, H'⟩ := at_idx' H
                      replace H := H'; clear H'
                      refine stp (v := .pointer (some p152)) rfl rfl (r_indexAddr (v1 := Sl.v y103.1) (v2 := .int .i64 s5_116) rfl rfl rfl (ix' Try.underlying32 sz9 he h0 h1 hpa)) ?_
                      clear he h0 h1 hpa
                      obtain ⟨x153, hx154, H'⟩ := at_ldc H
                      replace H := H'; clear H'
                      refine stp (v := .string x153) rfl rfl (r_load (v1 := .pointer (some p152)) rfl rfl (ld1 Try.underlying9 rfl (hx154 _ (Below.refl _ _)))) ?_
                      refine stp (v := .string x153) rfl rfl (r_assign rfl rfl) ?_
                      refine fin ?_
                      refine n148 _ _ ?_
                      refine c_seqj (fun a w => ∃ (j6_17 : ByteArray) (g : Nat → Value) (N : NP), a = A 177 (updl g [(3, .pointer (some ⟨g19, 0, none⟩)), (4, .int .i64 y17.2.2.2.1), (5, .int .i64 y17.2.2.2.2.1), (6, .string y17.2.2.2.2.2), (7, .pointer (some ⟨g25, 0, none⟩)), (11, .int .i64 s3_86), (12, Sl.v y103.1), (14, Sl.v y107.1), (16, .int .i64 s5_116), (17, .string j6_17), (85, .int .i64 (y17.2.1.n : Int)), (86, .int .i64 s3_86), (115, .int .i64 (y103.1.n : Int)), (116, .int .i64 s5_116)]) ∧ Bx w N [⟨g31, 26, #[Sl.v y29.1, Sl.v y29.2.1, .int .i64 y29.2.2.1]⟩, ⟨g25, 26, #[Sl.v y23.1, Sl.v y23.2.1, .int .i64 y23.2.2.1]⟩, ⟨g19, 26, #[Sl.v y17.1, Sl.v y17.2.1, .int .i64 y17.2.2.1]⟩] ∧ Aft w N (f3_laws_FnPictures.J6 R y107 (fun (z0 : Int) => next130 z0) s5_116 j6_17)) (fun Q157 n155 o156 => ?_) ?_
                      ·
                        refine c_seqj (fun a w => ∃ (j7_130 : Bool) (g : Nat → Value) (N : NP), a = A 177 (updl g [(3, .pointer (some ⟨g19, 0, none⟩)), (4, .int .i64 y17.2.2.2.1), (5, .int .i64 y17.2.2.2.2.1), (6, .string y17.2.2.2.2.2), (7, .pointer (some ⟨g25, 0, none⟩)), (11, .int .i64 s3_86), (12, Sl.v y103.1), (14, Sl.v y107.1), (16, .int .i64 s5_116), (17, .string x153), (85, .int .i64 (y17.2.1.n : Int)), (86, .int .i64 s3_86), (115, .int .i64 (y103.1.n : Int)), (116, .int .i64 s5_116), (130, .bool j7_130)]) ∧ Bx w N [⟨g31, 26, #[Sl.v y29.1, Sl.v y29.2.1, .int .i64 y29.2.2.1]⟩, ⟨g25, 26, #[Sl.v y23.1, Sl.v y23.2.1, .int .i64 y23.2.2.1]⟩, ⟨g19, 26, #[Sl.v y17.1, Sl.v y17.2.1, .int .i64 y17.2.2.1]⟩] ∧ Aft w N (f3_laws_FnPictures.J7 R y17 y107 (fun (z0 : Int) => next130 z0) s5_116 x153 j7_130)) (fun Q160 n158 o159 => ?_) ?_
                        ·
                          refine c_region ?_
                          refine stp (v := .int .i64 s3_86) rfl rfl (r_move rfl rfl) ?_
                          refine stp (v := .int .i64 y17.2.2.2.1) rfl rfl (r_move rfl rfl) ?_
                          refine stp (v := .bool (s3_86 == y17.2.2.2.1)) rfl rfl (r_eql (a := s3_86) (b := y17.2.2.2.1) rfl rfl rfl) ?_
                          refine stp (v := .bool (s3_86 == y17.2.2.2.1)) rfl rfl (r_move rfl rfl) ?_
                          rcases Bool.eq_false_or_eq_true (s3_86 == y17.2.2.2.1) with hb161 | hb161
                          · replace H := at_itet hb161 H
                            refine stp (v := .int .i64 s5_116) (wn rfl rfl rfl rfl (congrArg Value.bool hb161)) rfl (r_move rfl rfl) ?_
                            refine stp (v := .int .i64 y17.2.2.2.2.1) (wn rfl rfl rfl rfl (congrArg Value.bool hb161)) rfl (r_move rfl rfl) ?_
                            refine stp (v := .bool (s5_116 == y17.2.2.2.2.1)) (wn rfl rfl rfl rfl (congrArg Value.bool hb161)) rfl (r_eql (a := s5_116) (b := y17.2.2.2.2.1) rfl rfl rfl) ?_
                            refine stp (v := .bool (s5_116 == y17.2.2.2.2.1)) rfl rfl (r_pickt rfl (congrArg Value.bool hb161) rfl) ?_
                            refine fin ?_
                            exact n158 _ _ ⟨s5_116 == y17.2.2.2.2.1, _, _, fr_self rfl, B, H⟩
                          · replace H := at_itef hb161 H
                            refine skp (un rfl rfl rfl rfl (congrArg Value.bool hb161) nofun) rfl ?_
                            refine skp (un rfl rfl rfl rfl (congrArg Value.bool hb161) nofun) rfl ?_
                            refine skp (un rfl rfl rfl rfl (congrArg Value.bool hb161) nofun) rfl ?_
                            refine stp (v := .bool false) rfl rfl (r_pickf rfl (congrArg Value.bool hb161) rfl) ?_
                            refine fin ?_
                            exact n158 _ _ ⟨false, _, _, fr_self rfl, B, H⟩
                        ·
                          rintro _ w ⟨j7_130, g, N, rfl, B, H⟩
                          refine c_cond (b := j7_130) rfl (fun hb162 => ?_) (fun hb162 => ?_)
                          · replace H := at_itet hb162 H
                            refine c_region ?_
                            refine stp (v := .string y17.2.2.2.2.2) rfl rfl (r_move rfl rfl) ?_
                            refine stp (v := .string y17.2.2.2.2.2) rfl rfl (r_assign rfl rfl) ?_
                            refine fin ?_
                            exact n155 _ _ ⟨y17.2.2.2.2.2, _, _, fr_self rfl, B, H⟩
                          · replace H := at_itef hb162 H
                            refine c_skip ?_
                            exact n155 _ _ ⟨x153, _, _, fr_self rfl, B, H⟩
                      ·
                        rintro _ w ⟨j6_17, g, N, rfl, B, H⟩
                        refine c_seq (fun Q165 n163 o164 => ?_)
                        refine c_region ?_
                        refine stp (v := Sl.v y107.1) rfl rfl (r_move rfl rfl) ?_
                        refine stp (v := .int .i64 s5_116) rfl rfl (r_move rfl rfl) ?_
                        obtain ⟨p166, p167, he, h0, h1, hpa, H'⟩ := at_idx' H
                        replace H := H'; clear H'
                        refine stp (v := .pointer (some p167)) rfl rfl (r_indexAddr (v1 := Sl.v y107.1) (v2 := .int .i64 s5_116) rfl rfl rfl (ix' Try.underlying32 sz9 he h0 h1 hpa)) ?_
                        clear he h0 h1 hpa
                        obtain ⟨x168, hx169, H'⟩ := at_ldc H
                        replace H := H'; clear H'
                        refine stp (v := .string x168) rfl rfl (r_load (v1 := .pointer (some p167)) rfl rfl (ld1 Try.underlying9 rfl (hx169 _ (Below.refl _ _)))) ?_
                        refine stp (v := .string j6_17) rfl rfl (r_move rfl rfl) ?_
                        refine stp (v := .bool (!(x168.toList == j6_17.toList))) rfl rfl (r_sneq (s := x168) (t := j6_17) rfl rfl rfl) ?_
                        refine fin ?_
                        refine n163 _ _ ?_
                        refine c_cond (b := !(x168.toList == j6_17.toList)) rfl (fun hb170 => ?_) (fun hb170 => ?_)
                        · replace H := at_itet hb170 H
                          refine c_seq (fun Q173 n171 o172 => ?_)
                          refine c_region ?_
                          refine stp (v := .bool false) rfl rfl (r_assign rfl rfl) ?_
                          refine fin ?_
                          refine n171 _ _ ?_
                          refine c_ret (o142 _ _ _ nofun (by simp) (o139 _ _ _ nofun (o128 _ _ _ nofun (o124 _ _ _ nofun (by simp) (o94 _ _ _ nofun (by simp) (o91 _ _ _ nofun (o80 _ _ _ nofun (o76 _ _ _ nofun (by simp) (o70 _ _ _ nofun ((done (vs := [.bool false]) (.tmp rfl .nil) rfl ⟨_, rfl, H.now⟩)))))))))))
                        · replace H := at_itef hb170 H
                          refine c_skip ?_
                          refine n141 _ _ ?_
                          refine n138 _ _ ?_
                          refine c_region ?_
                          refine stp (v := .int .i64 (IntKind.i64.wrap (s5_116 + 1))) rfl rfl (r_add (a := s5_116) (b := 1) rfl rfl rfl) ?_
                          refine stp (v := .int .i64 (IntKind.i64.wrap (s5_116 + 1))) rfl rfl (r_move rfl rfl) ?_
                          refine fin ?_
                          exact nx127 (IntKind.i64.wrap (s5_116 + 1)) _ _ _ B H rfl
                    · replace H := at_itef hb137 H
                      refine c_exit (o135 _ _ _ nofun (o128 _ _ _ nofun (x125 _ _ ?_)))
                      refine n93 _ _ ?_
                      refine n90 _ _ ?_
                      refine c_region ?_
                      refine stp (v := .int .i64 (IntKind.i64.wrap (s3_86 + 1))) rfl rfl (r_add (a := s3_86) (b := 1) rfl rfl rfl) ?_
                      refine stp (v := .int .i64 (IntKind.i64.wrap (s3_86 + 1))) rfl rfl (r_move rfl rfl) ?_
                      refine fin ?_
                      exact nx79 (IntKind.i64.wrap (s3_86 + 1)) _ _ _ B H rfl
              · replace H := at_itef hb89 H
                refine c_exit (o87 _ _ _ nofun (o80 _ _ _ nofun (x77 _ _ ?_)))
                refine n69 _ _ ?_
                refine c_seq (fun Q176 n174 o175 => ?_)
                refine c_region ?_
                refine stp (v := .agg #[Sl.v y23.1, Sl.v y23.2.1, .int .i64 y23.2.2.1]) rfl rfl (r_load (v1 := .pointer (some ⟨g25, 0, none⟩)) rfl rfl (bxn (B.get 1 rfl) Try.underlying26 rfl sz26)) ?_
                refine stp (v := .int .i64 y17.2.2.2.1) rfl rfl (r_move rfl rfl) ?_
                refine stp (v := .int .i64 y17.2.2.2.2.1) rfl rfl (r_move rfl rfl) ?_
                refine stpc rfl rfl (r_call (vs := [.agg #[Sl.v y23.1, Sl.v y23.2.1, .int .i64 y23.2.2.1], .int .i64 y17.2.2.2.1, .int .i64 y17.2.2.2.2.1]) rfl rfl (ca11 _ _)) ?_
                refine at_call B H (fun y177 w B H => ?_)
                refine stp (v := .tuple #[.string y177.1, .bool y177.2]) rfl rfl (r_move rfl rfl) ?_
                refine stp (v := .string y177.1) rfl rfl (r_extract (v1 := .tuple #[.string y177.1, .bool y177.2]) rfl rfl rfl) ?_
                refine stp (v := .bool y177.2) rfl rfl (r_extract (v1 := .tuple #[.string y177.1, .bool y177.2]) rfl rfl rfl) ?_
                refine stp (v := .string y177.1) rfl rfl (r_assign rfl rfl) ?_
                refine stp (v := .bool y177.2) rfl rfl (r_assign rfl rfl) ?_
                refine fin ?_
                refine n174 _ _ ?_
                refine c_seq (fun Q180 n178 o179 => ?_)
                refine c_region ?_
                refine stp (v := .agg #[Sl.v y17.1, Sl.v y17.2.1, .int .i64 y17.2.2.1]) rfl rfl (r_load (v1 := .pointer (some ⟨g19, 0, none⟩)) rfl rfl (bxn (B.get 2 rfl) Try.underlying26 rfl sz26)) ?_
                refine stpc rfl rfl (r_call (vs := [.agg #[Sl.v y17.1, Sl.v y17.2.1, .int .i64 y17.2.2.1]]) rfl rfl (ca12 _ _)) ?_
                refine at_call B H (fun y181 w B H => ?_)
                refine stp (v := .tuple #[.int .i64 y181.1, .bool y181.2]) rfl rfl (r_move rfl rfl) ?_
                refine stp (v := .int .i64 y181.1) rfl rfl (r_extract (v1 := .tuple #[.int .i64 y181.1, .bool y181.2]) rfl rfl rfl) ?_
                refine stp (v := .bool y181.2) rfl rfl (r_extract (v1 := .tuple #[.int .i64 y181.1, .bool y181.2]) rfl rfl rfl) ?_
                refine stp (v := .int .i64 y181.1) rfl rfl (r_assign rfl rfl) ?_
                refine stp (v := .bool y181.2) rfl rfl (r_assign rfl rfl) ?_
                refine fin ?_
                refine n178 _ _ ?_
                refine c_seq (fun Q184 n182 o183 => ?_)
                refine c_region ?_
                refine stp (v := .agg #[Sl.v y23.1, Sl.v y23.2.1, .int .i64 y23.2.2.1]) rfl rfl (r_load (v1 := .pointer (some ⟨g25, 0, none⟩)) rfl rfl (bxn (B.get 1 rfl) Try.underlying26 rfl sz26)) ?_
                refine stpc rfl rfl (r_call (vs := [.agg #[Sl.v y23.1, Sl.v y23.2.1, .int .i64 y23.2.2.1]]) rfl rfl (ca12 _ _)) ?_
                refine at_call B H (fun y185 w B H => ?_)
                refine stp (v := .tuple #[.int .i64 y185.1, .bool y185.2]) rfl rfl (r_move rfl rfl) ?_
                refine stp (v := .int .i64 y185.1) rfl rfl (r_extract (v1 := .tuple #[.int .i64 y185.1, .bool y185.2]) rfl rfl rfl) ?_
                refine stp (v := .bool y185.2) rfl rfl (r_extract (v1 := .tuple #[.int .i64 y185.1, .bool y185.2]) rfl rfl rfl) ?_
                refine stp (v := .int .i64 y185.1) rfl rfl (r_assign rfl rfl) ?_
                refine stp (v := .bool y185.2) rfl rfl (r_assign rfl rfl) ?_
                refine fin ?_
                refine n182 _ _ ?_
                refine c_seqj (fun a w => ∃ (j8_2 : Bool) (g : Nat → Value) (N : NP), a = A 177 (updl g [(2, .bool j8_2)]) ∧ Bx w N [⟨g31, 26, #[Sl.v y29.1, Sl.v y29.2.1, .int .i64 y29.2.2.1]⟩, ⟨g25, 26, #[Sl.v y23.1, Sl.v y23.2.1, .int .i64 y23.2.2.1]⟩, ⟨g19, 26, #[Sl.v y17.1, Sl.v y17.2.1, .int .i64 y17.2.2.1]⟩] ∧ Aft w N (f3_laws_FnPictures.J8 R  j8_2)) (fun Q188 n186 o187 => ?_) ?_
                ·
                  refine c_region ?_
                  refine stp (v := .bool y177.2) rfl rfl (r_move rfl rfl) ?_
                  refine stp (v := .bool y177.2) rfl rfl (r_move rfl rfl) ?_
                  rcases Bool.eq_false_or_eq_true (y177.2) with hb189 | hb189
                  · replace H := at_itet hb189 H
                    refine stp (v := .bool y181.2) (wn rfl rfl rfl rfl (congrArg Value.bool hb189)) rfl (r_move rfl rfl) ?_
                    refine stp (v := .bool y181.2) rfl rfl (r_pickt rfl (congrArg Value.bool hb189) rfl) ?_
                    refine stp (v := .bool y181.2) rfl rfl (r_move rfl rfl) ?_
                    rcases Bool.eq_false_or_eq_true (y181.2) with hb190 | hb190
                    · replace H := at_itet hb190 H
                      refine stp (v := .bool y185.2) (wn rfl rfl rfl rfl (congrArg Value.bool hb190)) rfl (r_move rfl rfl) ?_
                      refine stp (v := .bool y185.2) rfl rfl (r_pickt rfl (congrArg Value.bool hb190) rfl) ?_
                      refine stp (v := .bool y185.2) rfl rfl (r_move rfl rfl) ?_
                      rcases Bool.eq_false_or_eq_true (y185.2) with hb191 | hb191
                      · replace H := at_itet hb191 H
                        refine stp (v := .string y177.1) (wn rfl rfl rfl rfl (congrArg Value.bool hb191)) rfl (r_move rfl rfl) ?_
                        refine stp (v := .string y17.2.2.2.2.2) (wn rfl rfl rfl rfl (congrArg Value.bool hb191)) rfl (r_move rfl rfl) ?_
                        refine stp (v := .bool (y177.1.toList == y17.2.2.2.2.2.toList)) (wn rfl rfl rfl rfl (congrArg Value.bool hb191)) rfl (r_seql (s := y177.1) (t := y17.2.2.2.2.2) rfl rfl rfl) ?_
                        refine stp (v := .bool (y177.1.toList == y17.2.2.2.2.2.toList)) rfl rfl (r_pickt rfl (congrArg Value.bool hb191) rfl) ?_
                        refine stp (v := .bool (y177.1.toList == y17.2.2.2.2.2.toList)) rfl rfl (r_move rfl rfl) ?_
                        rcases Bool.eq_false_or_eq_true (y177.1.toList == y17.2.2.2.2.2.toList) with hb192 | hb192
                        · replace H := at_itet hb192 H
                          refine stp (v := .int .i64 y185.1) (wn rfl rfl rfl rfl (congrArg Value.bool hb192)) rfl (r_move rfl rfl) ?_
                          refine stp (v := .int .i64 y181.1) (wn rfl rfl rfl rfl (congrArg Value.bool hb192)) rfl (r_move rfl rfl) ?_
                          refine stp (v := .pointer (some ⟨g19, 2, none⟩)) (wn rfl rfl rfl rfl (congrArg Value.bool hb192)) rfl (r_fieldAddr (v1 := .pointer (some ⟨g19, 0, none⟩)) rfl rfl (fld26_2 _ _)) ?_
                          refine stp (v := .int .i64 y17.2.2.1) (wn rfl rfl rfl rfl (congrArg Value.bool hb192)) rfl (r_load (v1 := .pointer (some ⟨g19, 2, none⟩)) rfl rfl (ld1 Try.underlying3 rfl (bx1 (B.get 2 rfl) rfl rfl))) ?_
                          refine stp (v := .int .i64 (IntKind.i64.wrap (y181.1 + y17.2.2.1))) (wn rfl rfl rfl rfl (congrArg Value.bool hb192)) rfl (r_add (a := y181.1) (b := y17.2.2.1) rfl rfl rfl) ?_
                          refine stp (v := .bool (decide (y185.1 ≤ (IntKind.i64.wrap (y181.1 + y17.2.2.1))))) (wn rfl rfl rfl rfl (congrArg Value.bool hb192)) rfl (r_leq (a := y185.1) (b := IntKind.i64.wrap (y181.1 + y17.2.2.1)) rfl rfl rfl) ?_
                          refine stp (v := .bool (decide (y185.1 ≤ (IntKind.i64.wrap (y181.1 + y17.2.2.1))))) rfl rfl (r_pickt rfl (congrArg Value.bool hb192) rfl) ?_
                          refine stp (v := .bool (decide (y185.1 ≤ (IntKind.i64.wrap (y181.1 + y17.2.2.1))))) rfl rfl (r_assign rfl rfl) ?_
                          refine fin ?_
                          exact n186 _ _ ⟨decide (y185.1 ≤ (IntKind.i64.wrap (y181.1 + y17.2.2.1))), _, _, fr_self rfl, B, H⟩
                        · replace H := at_itef hb192 H
                          refine skp (un rfl rfl rfl rfl (congrArg Value.bool hb192) nofun) rfl ?_
                          refine skp (un rfl rfl rfl rfl (congrArg Value.bool hb192) nofun) rfl ?_
                          refine skp (un rfl rfl rfl rfl (congrArg Value.bool hb192) nofun) rfl ?_
                          refine skp (un rfl rfl rfl rfl (congrArg Value.bool hb192) nofun) rfl ?_
                          refine skp (un rfl rfl rfl rfl (congrArg Value.bool hb192) nofun) rfl ?_
                          refine skp (un rfl rfl rfl rfl (congrArg Value.bool hb192) nofun) rfl ?_
                          refine stp (v := .bool false) rfl rfl (r_pickf rfl (congrArg Value.bool hb192) rfl) ?_
                          refine stp (v := .bool false) rfl rfl (r_assign rfl rfl) ?_
                          refine fin ?_
                          exact n186 _ _ ⟨false, _, _, fr_self rfl, B, H⟩
                      · replace H := at_itef hb191 H
                        refine skp (un rfl rfl rfl rfl (congrArg Value.bool hb191) nofun) rfl ?_
                        refine skp (un rfl rfl rfl rfl (congrArg Value.bool hb191) nofun) rfl ?_
                        refine skp (un rfl rfl rfl rfl (congrArg Value.bool hb191) nofun) rfl ?_
                        refine stp (v := .bool false) rfl rfl (r_pickf rfl (congrArg Value.bool hb191) rfl) ?_
                        refine stp (v := .bool false) rfl rfl (r_move rfl rfl) ?_
                        refine skp (un rfl rfl rfl rfl rfl nofun) rfl ?_
                        refine skp (un rfl rfl rfl rfl rfl nofun) rfl ?_
                        refine skp (un rfl rfl rfl rfl rfl nofun) rfl ?_
                        refine skp (un rfl rfl rfl rfl rfl nofun) rfl ?_
                        refine skp (un rfl rfl rfl rfl rfl nofun) rfl ?_
                        refine skp (un rfl rfl rfl rfl rfl nofun) rfl ?_
                        refine stp (v := .bool false) rfl rfl (r_pickf rfl rfl rfl) ?_
                        refine stp (v := .bool false) rfl rfl (r_assign rfl rfl) ?_
                        refine fin ?_
                        exact n186 _ _ ⟨false, _, _, fr_self rfl, B, H⟩
                    · replace H := at_itef hb190 H
                      refine skp (un rfl rfl rfl rfl (congrArg Value.bool hb190) nofun) rfl ?_
                      refine stp (v := .bool false) rfl rfl (r_pickf rfl (congrArg Value.bool hb190) rfl) ?_
                      refine stp (v := .bool false) rfl rfl (r_move rfl rfl) ?_
                      refine skp (un rfl rfl rfl rfl rfl nofun) rfl ?_
                      refine skp (un rfl rfl rfl rfl rfl nofun) rfl ?_
                      refine skp (un rfl rfl rfl rfl rfl nofun) rfl ?_
                      refine stp (v := .bool false) rfl rfl (r_pickf rfl rfl rfl) ?_
                      refine stp (v := .bool false) rfl rfl (r_move rfl rfl) ?_
                      refine skp (un rfl rfl rfl rfl rfl nofun) rfl ?_
                      refine skp (un rfl rfl rfl rfl rfl nofun) rfl ?_
                      refine skp (un rfl rfl rfl rfl rfl nofun) rfl ?_
                      refine skp (un rfl rfl rfl rfl rfl nofun) rfl ?_
                      refine skp (un rfl rfl rfl rfl rfl nofun) rfl ?_
                      refine skp (un rfl rfl rfl rfl rfl nofun) rfl ?_
                      refine stp (v := .bool false) rfl rfl (r_pickf rfl rfl rfl) ?_
                      refine stp (v := .bool false) rfl rfl (r_assign rfl rfl) ?_
                      refine fin ?_
                      exact n186 _ _ ⟨false, _, _, fr_self rfl, B, H⟩
                  · replace H := at_itef hb189 H
                    refine skp (un rfl rfl rfl rfl (congrArg Value.bool hb189) nofun) rfl ?_
                    refine stp (v := .bool false) rfl rfl (r_pickf rfl (congrArg Value.bool hb189) rfl) ?_
                    refine stp (v := .bool false) rfl rfl (r_move rfl rfl) ?_
                    refine skp (un rfl rfl rfl rfl rfl nofun) rfl ?_
                    refine stp (v := .bool false) rfl rfl (r_pickf rfl rfl rfl) ?_
                    refine stp (v := .bool false) rfl rfl (r_move rfl rfl) ?_
                    refine skp (un rfl rfl rfl rfl rfl nofun) rfl ?_
                    refine skp (un rfl rfl rfl rfl rfl nofun) rfl ?_
                    refine skp (un rfl rfl rfl rfl rfl nofun) rfl ?_
                    refine stp (v := .bool false) rfl rfl (r_pickf rfl rfl rfl) ?_
                    refine stp (v := .bool false) rfl rfl (r_move rfl rfl) ?_
                    refine skp (un rfl rfl rfl rfl rfl nofun) rfl ?_
                    refine skp (un rfl rfl rfl rfl rfl nofun) rfl ?_
                    refine skp (un rfl rfl rfl rfl rfl nofun) rfl ?_
                    refine skp (un rfl rfl rfl rfl rfl nofun) rfl ?_
                    refine skp (un rfl rfl rfl rfl rfl nofun) rfl ?_
                    refine skp (un rfl rfl rfl rfl rfl nofun) rfl ?_
                    refine stp (v := .bool false) rfl rfl (r_pickf rfl rfl rfl) ?_
                    refine stp (v := .bool false) rfl rfl (r_assign rfl rfl) ?_
                    refine fin ?_
                    exact n186 _ _ ⟨false, _, _, fr_self rfl, B, H⟩
                ·
                  rintro _ w ⟨j8_2, g, N, rfl, B, H⟩
                  refine c_ret ((done (vs := [.bool j8_2]) (.tmp rfl .nil) rfl ⟨_, rfl, H.now⟩))
def f5_spec_DrawPutLeaf.T (R : Value → World → Prop) (a0 : Sl) : Tm :=
  T.new (.cells #[Sl.v a0, .int .i64 0, .int .u64 0] 51) fun (g10 : Nat) => T.call Try.prog 18 [.pointer (some (⟨g10, 0, none⟩ : Addr))] (fun (z : Sl × Sl × Int) => .agg #[Sl.v z.1, Sl.v z.2.1, .int .i64 z.2.2]) fun (y14 : Sl × Sl × Int) => T.call Try.prog 19 [.pointer (some (⟨g10, 0, none⟩ : Addr)), .int .i64 (IntKind.i64.wrap ((y14.2.1.n : Int) + 1))] (Value.int .i64) fun (y25 : Int) => T.call Try.prog 19 [.pointer (some (⟨g10, 0, none⟩ : Addr)), .int .i64 17] (Value.int .i64) fun (y31 : Int) => T.new (.cells #[.string (⟨#[]⟩ : ByteArray), .string (⟨#[120]⟩ : ByteArray), .string (⟨#[97]⟩ : ByteArray), .string (⟨#[49, 50, 51, 52, 53, 54, 55, 56, 57]⟩ : ByteArray), .string (⟨#[49, 50, 51, 52, 53, 54, 55, 56]⟩ : ByteArray)] 9) fun (g37 : Nat) => T.call Try.prog 20 [.pointer (some (⟨g10, 0, none⟩ : Addr)), Sl.v (⟨some ⟨g37, 0, none⟩, 5, 5⟩ : Sl)] Value.string fun (y38 : ByteArray) => T.ret R (.tuple #[.agg #[Sl.v y14.1, Sl.v y14.2.1, .int .i64 y14.2.2], .int .i64 y25, .int .i64 y31, .string y38])
set_option maxHeartbeats 4000000 in
set_option maxRecDepth 100000 in
theorem f5_spec_DrawPutLeaf.ok (R : Value → World → Prop) (a0 : Sl) (w : World) (h : Aft w (fun _ => False) (f5_spec_DrawPutLeaf.T R a0)) :
    Calls Try.prog 5 (List.toArray [Sl.v a0]) w fun e w' => ∃ v, e = .returned v ∧ R v w' := by
  refine enter 25 Try.func5 rfl rfl rfl ?_
  have B := Bx.nil w
  have H := h
  clear h
  refine c_seq (fun Q3 n1 o2 => ?_)
  refine c_region ?_
  obtain ⟨w4, N, g5, hw, hg, B, H⟩ := B.new H 26 #[Sl.v Sl.nil, Sl.v Sl.nil, .int .i64 0]
  refine stp (v := .pointer (some ⟨g5, 0, none⟩)) (w' := w4) rfl rfl (r_alloc rfl (alloc_run (al26 _) hw hg)) ?_
  clear hw hg
  refine stp (v := .int .i64 0) rfl rfl (r_assign rfl rfl) ?_
  refine stp (v := .int .i64 0) rfl rfl (r_assign rfl rfl) ?_
  refine stp (v := .string (⟨#[]⟩ : ByteArray)) rfl rfl (r_assign rfl rfl) ?_
  refine fin ?_
  refine n1 _ _ ?_
  refine c_seq (fun Q8 n6 o7 => ?_)
  refine c_region ?_
  refine stp (v := Sl.v a0) rfl rfl (r_move rfl rfl) ?_
  refine stp (v := .agg #[Sl.v a0, .int .i64 0, .int .u64 0]) rfl rfl (r_build (qs := [(0, Sl.v a0)]) rfl rfl (site0 a0 _)) ?_
  obtain ⟨w9, g10, hw, hg, B, H⟩ := at_new' B H
  refine stp (v := .pointer (some ⟨g10, 0, none⟩)) (w' := w9) rfl rfl (r_box (v1 := .agg #[Sl.v a0, .int .i64 0, .int .u64 0]) rfl rfl (box_run rfl hw hg)) ?_
  clear hw hg
  refine stp (v := .pointer (some (⟨g10, 0, none⟩ : Addr))) rfl rfl (r_assign rfl rfl) ?_
  refine fin ?_
  refine n6 _ _ ?_
  refine c_seq (fun Q13 n11 o12 => ?_)
  refine c_region ?_
  refine stp (v := .pointer (some (⟨g10, 0, none⟩ : Addr))) rfl rfl (r_move rfl rfl) ?_
  refine stpc rfl rfl (r_call (vs := [.pointer (some (⟨g10, 0, none⟩ : Addr))]) rfl rfl (ca18 _ _)) ?_
  refine at_call B H (fun y14 w B H => ?_)
  obtain ⟨w15, N, g16, hw, hg, B, H⟩ := B.new H 26 #[Sl.v Sl.nil, Sl.v Sl.nil, .int .i64 0]
  refine stp (v := .pointer (some ⟨g16, 0, none⟩)) (w' := w15) rfl rfl (r_alloc rfl (alloc_run (al26 _) hw hg)) ?_
  clear hw hg
  obtain ⟨w2, hr, B, H⟩ := B.stn H (i := 0) (T := 26) (cs' := #[Sl.v y14.1, Sl.v y14.2.1, .int .i64 y14.2.2]) (ad := ⟨g16, 0, none⟩) rfl rfl rfl rfl sz26
  refine stp0 rfl rfl (r_store (v1 := .pointer (some ⟨g16, 0, none⟩)) (v2 := .agg #[Sl.v y14.1, Sl.v y14.2.1, .int .i64 y14.2.2]) rfl rfl rfl hr) ?_
  replace B : Bx _ _ [⟨g16, 26, #[Sl.v y14.1, Sl.v y14.2.1, .int .i64 y14.2.2]⟩, ⟨g5, 26, #[Sl.v Sl.nil, Sl.v Sl.nil, .int .i64 0]⟩] := B
  clear hr
  refine fin ?_
  refine n11 _ _ ?_
  refine c_seq (fun Q19 n17 o18 => ?_)
  refine c_open 12 (kap [6, 8, 11] [10]) (fun i b => bif Nat.beq i 10 then .slice (some ⟨b, 0, none⟩) 5 5 else .pointer (some ⟨b, 0, none⟩)) (fun _ => []) (fun i => bif Nat.beq i 11 then [(10, 23)] else []) [0, 1, 2, 3, 4, 5, 7, 9, 6, 8, 11] [(10, 23)] [(10, 9, #[.string (⟨#[]⟩ : ByteArray), .string (⟨#[120]⟩ : ByteArray), .string (⟨#[97]⟩ : ByteArray), .string (⟨#[49, 50, 51, 52, 53, 54, 55, 56, 57]⟩ : ByteArray), .string (⟨#[49, 50, 51, 52, 53, 54, 55, 56]⟩ : ByteArray)])] _ rfl (by kernel_rfl) (by kernel_rfl) rfl B (flk (by simp) (al_cons rfl (.inr rfl) (fun _ g hg => (r_buildSlice (qs := [(0, .string (⟨#[]⟩ : ByteArray)), (1, .string (⟨#[120]⟩ : ByteArray)), (2, .string (⟨#[97]⟩ : ByteArray)), (3, .string (⟨#[49, 50, 51, 52, 53, 54, 55, 56, 57]⟩ : ByteArray)), (4, .string (⟨#[49, 50, 51, 52, 53, 54, 55, 56]⟩ : ByteArray))]) rfl rfl (bs_run (site1 (⟨#[]⟩ : ByteArray) (⟨#[120]⟩ : ByteArray) (⟨#[97]⟩ : ByteArray) (⟨#[49, 50, 51, 52, 53, 54, 55, 56, 57]⟩ : ByteArray) (⟨#[49, 50, 51, 52, 53, 54, 55, 56]⟩ : ByteArray) _) rfl rfl))) al_nil)) ?_
  refine ph_q (v := .agg #[Sl.v y14.1, Sl.v y14.2.1, .int .i64 y14.2.2]) rfl rfl rfl (hv_ok rfl rfl) (qy_val rfl (fun w_ ρ_ hb_ => (r_load (v1 := .pointer (some ⟨g16, 0, none⟩)) rfl rfl (bxn (hb_.get 0 rfl) Try.underlying26 rfl sz26)))) ?_
  refine ph_q (v := .pointer (some (⟨g10, 0, none⟩ : Addr))) rfl rfl rfl (hv_ok rfl rfl) (qy_val rfl (fun w_ ρ_ hb_ => (r_move rfl rfl))) ?_
  refine ph_q (v := .pointer (some ⟨g16, 1, none⟩)) rfl rfl rfl (hv_ok rfl rfl) (qy_val rfl (fun w_ ρ_ hb_ => (r_fieldAddr (v1 := .pointer (some ⟨g16, 0, none⟩)) rfl rfl (fld26_1 _ _)))) ?_
  refine ph_q (v := Sl.v y14.2.1) rfl rfl rfl (hv_ok rfl rfl) (qy_val rfl (fun w_ ρ_ hb_ => (r_load (v1 := .pointer (some ⟨g16, 1, none⟩)) rfl rfl (ld1 Try.underlying24 rfl (bx1 (hb_.get 0 rfl) rfl rfl))))) ?_
  refine ph_q (v := .int .i64 (y14.2.1.n : Int)) rfl rfl rfl (hv_ok rfl rfl) (qy_val rfl (fun w_ ρ_ hb_ => (r_builtin (vs := [Sl.v y14.2.1]) rfl rfl (fun _ => lenl Try.underlying24)))) ?_
  refine ph_q (v := .int .i64 (IntKind.i64.wrap ((y14.2.1.n : Int) + 1))) rfl rfl rfl (hv_ok rfl rfl) (qy_val rfl (fun w_ ρ_ hb_ => (r_add (a := (y14.2.1.n : Int)) (b := 1) rfl rfl rfl))) ?_
  refine ph_q (v := .pointer (some (⟨g10, 0, none⟩ : Addr))) rfl rfl rfl (hv_ok rfl rfl) (qy_val rfl (fun w_ ρ_ hb_ => (r_move rfl rfl))) ?_
  refine ph_q (v := .pointer (some (⟨g10, 0, none⟩ : Addr))) rfl rfl rfl (hv_ok rfl rfl) (qy_val rfl (fun w_ ρ_ hb_ => (r_move rfl rfl))) ?_
  refine ph_e rfl rfl (fun w20 ρ24 hc hs => ?_)
  obtain ⟨hx, N21, hz22, B23⟩ := hc
  replace H := H.step hz22
  clear hz22
  refine ef_call rfl (r_call (vs := [.pointer (some (⟨g10, 0, none⟩ : Addr)), .int .i64 (IntKind.i64.wrap ((y14.2.1.n : Int) + 1))]) rfl rfl (ca19 _ _)) (at_call B23 H (fun y25 w2 B H => ?_))
  refine ⟨Cls w2 N21 [⟨g16, 26, #[Sl.v y14.1, Sl.v y14.2.1, .int .i64 y14.2.2]⟩, ⟨g5, 26, #[Sl.v Sl.nil, Sl.v Sl.nil, .int .i64 0]⟩] [(10, 9, #[.string (⟨#[]⟩ : ByteArray), .string (⟨#[120]⟩ : ByteArray), .string (⟨#[97]⟩ : ByteArray), .string (⟨#[49, 50, 51, 52, 53, 54, 55, 56, 57]⟩ : ByteArray), .string (⟨#[49, 50, 51, 52, 53, 54, 55, 56]⟩ : ByteArray)])] [], Cls.now hx B, (flk (by simp) (al_cons rfl (.inr rfl) (fun _ g hg => (r_buildSlice (qs := [(0, .string (⟨#[]⟩ : ByteArray)), (1, .string (⟨#[120]⟩ : ByteArray)), (2, .string (⟨#[97]⟩ : ByteArray)), (3, .string (⟨#[49, 50, 51, 52, 53, 54, 55, 56, 57]⟩ : ByteArray)), (4, .string (⟨#[49, 50, 51, 52, 53, 54, 55, 56]⟩ : ByteArray))]) rfl rfl (bs_run (site1 (⟨#[]⟩ : ByteArray) (⟨#[120]⟩ : ByteArray) (⟨#[97]⟩ : ByteArray) (⟨#[49, 50, 51, 52, 53, 54, 55, 56, 57]⟩ : ByteArray) (⟨#[49, 50, 51, 52, 53, 54, 55, 56]⟩ : ByteArray) _) rfl rfl))) al_nil)), (pd_anc (re := [9, 7, 0]) (by kernel_rfl) (re_cons rfl rfl rfl (qy_val rfl (fun w_ ρ_ hb_ => (r_move rfl rfl))) (re_cons rfl rfl rfl (qy_val rfl (fun w_ ρ_ hb_ => (r_move rfl rfl))) (re_cons rfl rfl rfl (qy_val rfl (fun w_ ρ_ hb_ => (r_load (v1 := .pointer (some ⟨g16, 0, none⟩)) rfl rfl (bxn (hb_.get 0 rfl) Try.underlying26 rfl sz26)))) re_nil)))), ?_⟩
  clear hx
  replace B := B.sub (List.sublist_append_right _ _)
  refine ph_e rfl rfl (fun w26 ρ30 hc hs => ?_)
  obtain ⟨hx, N27, hz28, B29⟩ := hc
  replace H := H.step hz28
  clear hz28
  refine ef_call rfl (r_call (vs := [.pointer (some (⟨g10, 0, none⟩ : Addr)), .int .i64 17]) rfl rfl (ca19 _ _)) (at_call B29 H (fun y31 w2 B H => ?_))
  refine ⟨Cls w2 N27 [⟨g16, 26, #[Sl.v y14.1, Sl.v y14.2.1, .int .i64 y14.2.2]⟩, ⟨g5, 26, #[Sl.v Sl.nil, Sl.v Sl.nil, .int .i64 0]⟩] [(10, 9, #[.string (⟨#[]⟩ : ByteArray), .string (⟨#[120]⟩ : ByteArray), .string (⟨#[97]⟩ : ByteArray), .string (⟨#[49, 50, 51, 52, 53, 54, 55, 56, 57]⟩ : ByteArray), .string (⟨#[49, 50, 51, 52, 53, 54, 55, 56]⟩ : ByteArray)])] [], Cls.now hx B, (flk (by simp) (al_cons rfl (.inr rfl) (fun _ g hg => (r_buildSlice (qs := [(0, .string (⟨#[]⟩ : ByteArray)), (1, .string (⟨#[120]⟩ : ByteArray)), (2, .string (⟨#[97]⟩ : ByteArray)), (3, .string (⟨#[49, 50, 51, 52, 53, 54, 55, 56, 57]⟩ : ByteArray)), (4, .string (⟨#[49, 50, 51, 52, 53, 54, 55, 56]⟩ : ByteArray))]) rfl rfl (bs_run (site1 (⟨#[]⟩ : ByteArray) (⟨#[120]⟩ : ByteArray) (⟨#[97]⟩ : ByteArray) (⟨#[49, 50, 51, 52, 53, 54, 55, 56, 57]⟩ : ByteArray) (⟨#[49, 50, 51, 52, 53, 54, 55, 56]⟩ : ByteArray) _) rfl rfl))) al_nil)), (pd_anc (re := [9, 0]) (by kernel_rfl) (re_cons rfl rfl rfl (qy_val rfl (fun w_ ρ_ hb_ => (r_move rfl rfl))) (re_cons rfl rfl rfl (qy_val rfl (fun w_ ρ_ hb_ => (r_load (v1 := .pointer (some ⟨g16, 0, none⟩)) rfl rfl (bxn (hb_.get 0 rfl) Try.underlying26 rfl sz26)))) re_nil))), ?_⟩
  clear hx
  replace B := B.sub (List.sublist_append_right _ _)
  refine ph_e rfl rfl (fun w32 ρ36 hc hs => ?_)
  obtain ⟨hx, N33, hz34, B35⟩ := hc
  replace H := H.step hz34
  clear hz34
  obtain ⟨g37, hg10⟩ := Option.isSome_iff_exists.1 (hs (10, 23) (by simp))
  obtain ⟨N33, B35, H⟩ := at_pub (g := g37) (T := 9) (cs := #[.string (⟨#[]⟩ : ByteArray), .string (⟨#[120]⟩ : ByteArray), .string (⟨#[97]⟩ : ByteArray), .string (⟨#[49, 50, 51, 52, 53, 54, 55, 56, 57]⟩ : ByteArray), .string (⟨#[49, 50, 51, 52, 53, 54, 55, 56]⟩ : ByteArray)]) (bs := flb [] ρ36 ++ [⟨g16, 26, #[Sl.v y14.1, Sl.v y14.2.1, .int .i64 y14.2.2]⟩, ⟨g5, 26, #[Sl.v Sl.nil, Sl.v Sl.nil, .int .i64 0]⟩]) (by simpa only [flb, List.filterMap_cons, hg10, Option.map_some, List.cons_append] using B35) H
  replace hx := hx_cons hg10 hx
  refine EF_frame (f' := updl _ [(23, .slice (some ⟨g37, 0, none⟩) 5 5)]) (wfl_cons hg10 rfl wfl_nil) ?_
  refine ef_call rfl (r_call (vs := [.pointer (some (⟨g10, 0, none⟩ : Addr)), Sl.v (⟨some ⟨g37, 0, none⟩, 5, 5⟩ : Sl)]) rfl rfl (ca20 _ _)) (at_call B35 H (fun y38 w2 B H => ?_))
  refine ⟨Cls w2 N33 [⟨g16, 26, #[Sl.v y14.1, Sl.v y14.2.1, .int .i64 y14.2.2]⟩, ⟨g5, 26, #[Sl.v Sl.nil, Sl.v Sl.nil, .int .i64 0]⟩] [] [(10, g37)], Cls.now hx B, (flk (by simp) (al_cons rfl (.inl rfl) (fun _ g hg => (r_buildSlice (qs := [(0, .string (⟨#[]⟩ : ByteArray)), (1, .string (⟨#[120]⟩ : ByteArray)), (2, .string (⟨#[97]⟩ : ByteArray)), (3, .string (⟨#[49, 50, 51, 52, 53, 54, 55, 56, 57]⟩ : ByteArray)), (4, .string (⟨#[49, 50, 51, 52, 53, 54, 55, 56]⟩ : ByteArray))]) rfl rfl (bs_run (site1 (⟨#[]⟩ : ByteArray) (⟨#[120]⟩ : ByteArray) (⟨#[97]⟩ : ByteArray) (⟨#[49, 50, 51, 52, 53, 54, 55, 56, 57]⟩ : ByteArray) (⟨#[49, 50, 51, 52, 53, 54, 55, 56]⟩ : ByteArray) _) rfl rfl))) al_nil)), (pd_anc (re := [0]) (by kernel_rfl) (re_cons rfl rfl rfl (qy_val rfl (fun w_ ρ_ hb_ => (r_load (v1 := .pointer (some ⟨g16, 0, none⟩)) rfl rfl (bxn (hb_.get 0 rfl) Try.underlying26 rfl sz26)))) re_nil)), ?_⟩
  clear hx
  replace B := B.sub (List.sublist_append_right _ _)
  refine ph_nil (fun w ρ N hz hx B hs => ?_)
  replace H := H.step hz
  have hg10 := hx (10, g37) (by simp)
  replace hg10 : ρ 10 = some g37 := hg10
  replace B : Bx w N [⟨g16, 26, #[Sl.v y14.1, Sl.v y14.2.1, .int .i64 y14.2.2]⟩, ⟨g5, 26, #[Sl.v Sl.nil, Sl.v Sl.nil, .int .i64 0]⟩] := by simpa only [flb, List.filterMap_cons, List.filterMap_nil, hg10, Option.map_some, List.cons_append, List.nil_append] using B
  refine WL_frame (f' := updl _ [(23, .slice (some ⟨g37, 0, none⟩) 5 5)]) (wfl_cons hg10 rfl wfl_nil) ?_
  obtain ⟨w2, hr, B, H⟩ := B.stn H (i := 1) (T := 26) (cs' := #[Sl.v y14.1, Sl.v y14.2.1, .int .i64 y14.2.2]) (ad := ⟨g5, 0, none⟩) rfl rfl rfl rfl sz26
  refine stp0 rfl rfl (r_store (v1 := .pointer (some ⟨g5, 0, none⟩)) (v2 := .agg #[Sl.v y14.1, Sl.v y14.2.1, .int .i64 y14.2.2]) rfl rfl rfl hr) ?_
  replace B : Bx _ _ [⟨g16, 26, #[Sl.v y14.1, Sl.v y14.2.1, .int .i64 y14.2.2]⟩, ⟨g5, 26, #[Sl.v y14.1, Sl.v y14.2.1, .int .i64 y14.2.2]⟩] := B
  clear hr
  refine stp (v := .int .i64 y25) rfl rfl (r_assign rfl rfl) ?_
  refine stp (v := .int .i64 y31) rfl rfl (r_assign rfl rfl) ?_
  refine stp (v := .string y38) rfl rfl (r_assign rfl rfl) ?_
  refine fin ?_
  refine n17 _ _ ?_
  refine c_ret ((done (vs := [.agg #[Sl.v y14.1, Sl.v y14.2.1, .int .i64 y14.2.2], .int .i64 y25, .int .i64 y31, .string y38]) (.cell rfl (bxn (B.get 1 rfl) Try.underlying26 rfl sz26) (.tmp rfl (.tmp rfl (.tmp rfl .nil)))) rfl ⟨_, rfl, H.now⟩))
def f6_impl_PutLeaf.J2 (R : Value → World → Prop) (y26 : (Option Addr)) : Tm :=
  T.nn y26 fun (p67 : Addr) => T.ldc (p67.add 0) Sl.v fun (x69_0 : Sl) => T.ldc (p67.add 1) Sl.v fun (x69_1 : Sl) => T.ldc (p67.add 2) (Value.int .i64) fun (x69_2 : Int) => T.call Try.prog 8 [.agg #[Sl.v x69_0, Sl.v x69_1, .int .i64 x69_2]] Value.bool fun (y73 : Bool) => T.ite (!y73) (T.ret R (.tuple #[.agg #[Sl.v Sl.nil, Sl.v Sl.nil, .int .i64 0], .bool false])) (T.nn y26 fun (p81 : Addr) => T.ldc (p81.add 0) Sl.v fun (x83_0 : Sl) => T.ldc (p81.add 1) Sl.v fun (x83_1 : Sl) => T.ldc (p81.add 2) (Value.int .i64) fun (x83_2 : Int) => T.ret R (.tuple #[.agg #[Sl.v x83_0, Sl.v x83_1, .int .i64 x83_2], .bool true]))
def f6_impl_PutLeaf.J1 (R : Value → World → Prop) (a0_0 : Sl) (a0_1 : Sl) (a0_2 : Int) (a1 : Int) (a2 : Int) (a3 : ByteArray) (j1_27 : Bool) : Tm :=
  T.ite j1_27 (T.ret R (.tuple #[.agg #[Sl.v Sl.nil, Sl.v Sl.nil, .int .i64 0], .bool false])) (T.call Try.prog 24 [.agg #[Sl.v a0_0, Sl.v a0_1, .int .i64 a0_2]] Value.pointer fun (y26 : (Option Addr)) => T.call Try.prog 25 [.agg #[Sl.v a0_0, Sl.v a0_1, .int .i64 a0_2], .int .i64 a1, .int .i64 a2] Value.string fun (y33 : ByteArray) => T.ite (!(y33.toList == a3.toList)) (T.nn y26 fun (p35 : Addr) => T.ldc (p35.add 1) Sl.v fun (x37 : Sl) => T.nn y26 fun (p39 : Addr) => T.ldc (p39.add 1) Sl.v fun (x41 : Sl) => T.idx x41 a1 1 fun (p44 : Addr) => T.ldc p44 (Value.int .i64) fun (x49 : Int) => T.call Try.prog 26 [.pointer y26, .int .i64 x49, .int .i64 a0_2, .int .i64 a2, .string a3] (Value.int .i64) fun (y56 : Int) => T.chk (p35.add 1) Sl.v x37 (T.idx x37 a1 1 fun (p58 : Addr) => T.stc p58 (.int .i64 y56) (f6_impl_PutLeaf.J2 R y26 ))) (f6_impl_PutLeaf.J2 R y26 ))
def f6_impl_PutLeaf.T (R : Value → World → Prop) (a0_0 : Sl) (a0_1 : Sl) (a0_2 : Int) (a1 : Int) (a2 : Int) (a3 : ByteArray) : Tm :=
  T.call Try.prog 21 [.agg #[Sl.v a0_0, Sl.v a0_1, .int .i64 a0_2], .int .i64 a1] Value.bool fun (y14 : Bool) => T.ite (!y14) (f6_impl_PutLeaf.J1 R a0_0 a0_1 a0_2 a1 a2 a3 true) (T.call Try.prog 23 [.agg #[Sl.v a0_0, Sl.v a0_1, .int .i64 a0_2]] (Value.int .i64) fun (y16 : Int) => T.call Try.prog 22 [.int .i64 a2, .int .i64 0, .int .i64 (IntKind.i64.wrap (y16 - 1))] Value.bool fun (y17 : Bool) => T.ite (!y17) (f6_impl_PutLeaf.J1 R a0_0 a0_1 a0_2 a1 a2 a3 true) (f6_impl_PutLeaf.J1 R a0_0 a0_1 a0_2 a1 a2 a3 (decide (8 < (a3.size : Int)))))
set_option maxHeartbeats 4000000 in
set_option maxRecDepth 100000 in
theorem f6_impl_PutLeaf.ok (R : Value → World → Prop) (a0_0 : Sl) (a0_1 : Sl) (a0_2 : Int) (a1 : Int) (a2 : Int) (a3 : ByteArray) (w : World) (h : Aft w (fun _ => False) (f6_impl_PutLeaf.T R a0_0 a0_1 a0_2 a1 a2 a3)) :
    Calls Try.prog 6 (List.toArray [.agg #[Sl.v a0_0, Sl.v a0_1, .int .i64 a0_2], .int .i64 a1, .int .i64 a2, .string a3]) w fun e w' => ∃ v, e = .returned v ∧ R v w' := by
  refine enter 65 Try.func6 rfl rfl rfl ?_
  have B := Bx.nil w
  have H := h
  clear h
  refine c_seq (fun Q3 n1 o2 => ?_)
  refine c_region ?_
  obtain ⟨w4, N, g5, hw, hg, B, H⟩ := B.new H 26 #[Sl.v a0_0, Sl.v a0_1, .int .i64 a0_2]
  refine stp (v := .pointer (some ⟨g5, 0, none⟩)) (w' := w4) rfl rfl (r_box (v1 := .agg #[Sl.v a0_0, Sl.v a0_1, .int .i64 a0_2]) rfl rfl (box_run rfl hw hg)) ?_
  clear hw hg
  obtain ⟨w6, N, g7, hw, hg, B, H⟩ := B.new H 26 #[Sl.v Sl.nil, Sl.v Sl.nil, .int .i64 0]
  refine stp (v := .pointer (some ⟨g7, 0, none⟩)) (w' := w6) rfl rfl (r_alloc rfl (alloc_run (al26 _) hw hg)) ?_
  clear hw hg
  refine stp (v := .bool false) rfl rfl (r_assign rfl rfl) ?_
  refine fin ?_
  refine n1 _ _ ?_
  refine c_seq (fun Q10 n8 o9 => ?_)
  refine c_seqj (fun a w => ∃ (j1_27 : Bool) (g : Nat → Value) (N : NP), a = A 65 (updl g [(1, .int .i64 a1), (2, .int .i64 a2), (3, .string a3), (4, .pointer (some ⟨g5, 0, none⟩)), (8, .pointer (some ⟨g7, 0, none⟩)), (27, .bool j1_27)]) ∧ Bx w N [⟨g7, 26, #[Sl.v Sl.nil, Sl.v Sl.nil, .int .i64 0]⟩, ⟨g5, 26, #[Sl.v a0_0, Sl.v a0_1, .int .i64 a0_2]⟩] ∧ Aft w N (f6_impl_PutLeaf.J1 R a0_0 a0_1 a0_2 a1 a2 a3 j1_27)) (fun Q13 n11 o12 => ?_) ?_
  ·
    refine c_region ?_
    refine stp (v := .agg #[Sl.v a0_0, Sl.v a0_1, .int .i64 a0_2]) rfl rfl (r_load (v1 := .pointer (some ⟨g5, 0, none⟩)) rfl rfl (bxn (B.get 1 rfl) Try.underlying26 rfl sz26)) ?_
    refine stp (v := .int .i64 a1) rfl rfl (r_move rfl rfl) ?_
    refine stpc rfl rfl (r_call (vs := [.agg #[Sl.v a0_0, Sl.v a0_1, .int .i64 a0_2], .int .i64 a1]) rfl rfl (ca21 _ _)) ?_
    refine at_call B H (fun y14 w B H => ?_)
    refine stp (v := .bool (!y14)) rfl rfl (r_not (b := y14) rfl rfl) ?_
    refine stp (v := .bool (!y14)) rfl rfl (r_move rfl rfl) ?_
    rcases Bool.eq_false_or_eq_true (!y14) with hb15 | hb15
    · replace H := at_itet hb15 H
      refine skp (un rfl rfl rfl rfl (congrArg Value.bool hb15) nofun) rfl ?_
      refine skp (un rfl rfl rfl rfl (congrArg Value.bool hb15) nofun) rfl ?_
      refine skp (un rfl rfl rfl rfl (congrArg Value.bool hb15) nofun) rfl ?_
      refine skp (un rfl rfl rfl rfl (congrArg Value.bool hb15) nofun) rfl ?_
      refine skp (un rfl rfl rfl rfl (congrArg Value.bool hb15) nofun) rfl ?_
      refine skp (un rfl rfl rfl rfl (congrArg Value.bool hb15) nofun) rfl ?_
      refine stp (v := .bool true) rfl rfl (r_pickt rfl (congrArg Value.bool hb15) rfl) ?_
      refine stp (v := .bool true) rfl rfl (r_move rfl rfl) ?_
      refine skp (un rfl rfl rfl rfl rfl nofun) rfl ?_
      refine skp (un rfl rfl rfl rfl rfl nofun) rfl ?_
      refine skp (un rfl rfl rfl rfl rfl nofun) rfl ?_
      refine stp (v := .bool true) rfl rfl (r_pickt rfl rfl rfl) ?_
      refine fin ?_
      exact n11 _ _ ⟨true, _, _, fr_self rfl, B, H⟩
    · replace H := at_itef hb15 H
      refine stp (v := .int .i64 a2) (wn rfl rfl rfl rfl (congrArg Value.bool hb15)) rfl (r_move rfl rfl) ?_
      refine stp (v := .agg #[Sl.v a0_0, Sl.v a0_1, .int .i64 a0_2]) (wn rfl rfl rfl rfl (congrArg Value.bool hb15)) rfl (r_load (v1 := .pointer (some ⟨g5, 0, none⟩)) rfl rfl (bxn (B.get 1 rfl) Try.underlying26 rfl sz26)) ?_
      refine stpc (wn rfl rfl rfl rfl (congrArg Value.bool hb15)) rfl (r_call (vs := [.agg #[Sl.v a0_0, Sl.v a0_1, .int .i64 a0_2]]) rfl rfl (ca23 _ _)) ?_
      refine at_call B H (fun y16 w B H => ?_)
      refine stp (v := .int .i64 (IntKind.i64.wrap (y16 - 1))) (wn rfl rfl rfl rfl (congrArg Value.bool hb15)) rfl (r_sub (a := y16) (b := 1) rfl rfl rfl) ?_
      refine stpc (wn rfl rfl rfl rfl (congrArg Value.bool hb15)) rfl (r_call (vs := [.int .i64 a2, .int .i64 0, .int .i64 (IntKind.i64.wrap (y16 - 1))]) rfl rfl (ca22 _ _)) ?_
      refine at_call B H (fun y17 w B H => ?_)
      refine stp (v := .bool (!y17)) (wn rfl rfl rfl rfl (congrArg Value.bool hb15)) rfl (r_not (b := y17) rfl rfl) ?_
      refine stp (v := .bool (!y17)) rfl rfl (r_pickf rfl (congrArg Value.bool hb15) rfl) ?_
      refine stp (v := .bool (!y17)) rfl rfl (r_move rfl rfl) ?_
      rcases Bool.eq_false_or_eq_true (!y17) with hb18 | hb18
      · replace H := at_itet hb18 H
        refine skp (un rfl rfl rfl rfl (congrArg Value.bool hb18) nofun) rfl ?_
        refine skp (un rfl rfl rfl rfl (congrArg Value.bool hb18) nofun) rfl ?_
        refine skp (un rfl rfl rfl rfl (congrArg Value.bool hb18) nofun) rfl ?_
        refine stp (v := .bool true) rfl rfl (r_pickt rfl (congrArg Value.bool hb18) rfl) ?_
        refine fin ?_
        exact n11 _ _ ⟨true, _, _, fr_self rfl, B, H⟩
      · replace H := at_itef hb18 H
        refine stp (v := .string a3) (wn rfl rfl rfl rfl (congrArg Value.bool hb18)) rfl (r_move rfl rfl) ?_
        refine stp (v := .int .i64 (a3.size : Int)) (wn rfl rfl rfl rfl (congrArg Value.bool hb18)) rfl (r_builtin (vs := [.string a3]) rfl rfl (fun _ => lens Try.underlying9)) ?_
        refine stp (v := .bool (decide (8 < (a3.size : Int)))) (wn rfl rfl rfl rfl (congrArg Value.bool hb18)) rfl (r_gtr (a := (a3.size : Int)) (b := 8) rfl rfl rfl) ?_
        refine stp (v := .bool (decide (8 < (a3.size : Int)))) rfl rfl (r_pickf rfl (congrArg Value.bool hb18) rfl) ?_
        refine fin ?_
        exact n11 _ _ ⟨decide (8 < (a3.size : Int)), _, _, fr_self rfl, B, H⟩
  ·
    rintro _ w ⟨j1_27, g, N, rfl, B, H⟩
    refine c_cond (b := j1_27) rfl (fun hb19 => ?_) (fun hb19 => ?_)
    · replace H := at_itet hb19 H
      refine c_seq (fun Q22 n20 o21 => ?_)
      refine c_region ?_
      refine stp (v := .agg #[Sl.v Sl.nil, Sl.v Sl.nil, .int .i64 0]) rfl rfl (r_build (qs := []) rfl rfl (site2  _)) ?_
      obtain ⟨w2, hr, B, H⟩ := B.stn H (i := 0) (T := 26) (cs' := #[Sl.v Sl.nil, Sl.v Sl.nil, .int .i64 0]) (ad := ⟨g7, 0, none⟩) rfl rfl rfl rfl sz26
      refine stp0 rfl rfl (r_store (v1 := .pointer (some ⟨g7, 0, none⟩)) (v2 := .agg #[Sl.v Sl.nil, Sl.v Sl.nil, .int .i64 0]) rfl rfl rfl hr) ?_
      replace B : Bx _ _ [⟨g7, 26, #[Sl.v Sl.nil, Sl.v Sl.nil, .int .i64 0]⟩, ⟨g5, 26, #[Sl.v a0_0, Sl.v a0_1, .int .i64 a0_2]⟩] := B
      clear hr
      refine stp (v := .bool false) rfl rfl (r_assign rfl rfl) ?_
      refine fin ?_
      refine n20 _ _ ?_
      refine c_ret (o9 _ _ _ nofun ((done (vs := [.agg #[Sl.v Sl.nil, Sl.v Sl.nil, .int .i64 0], .bool false]) (.cell rfl (bxn (B.get 0 rfl) Try.underlying26 rfl sz26) (.tmp rfl .nil)) rfl ⟨_, rfl, H.now⟩)))
    · replace H := at_itef hb19 H
      refine c_skip ?_
      refine n8 _ _ ?_
      refine c_seq (fun Q25 n23 o24 => ?_)
      refine c_region ?_
      refine stp (v := .agg #[Sl.v a0_0, Sl.v a0_1, .int .i64 a0_2]) rfl rfl (r_load (v1 := .pointer (some ⟨g5, 0, none⟩)) rfl rfl (bxn (B.get 1 rfl) Try.underlying26 rfl sz26)) ?_
      refine stpc rfl rfl (r_call (vs := [.agg #[Sl.v a0_0, Sl.v a0_1, .int .i64 a0_2]]) rfl rfl (ca24 _ _)) ?_
      refine at_call B H (fun y26 w B H => ?_)
      refine stp (v := .pointer y26) rfl rfl (r_assign rfl rfl) ?_
      refine fin ?_
      refine n23 _ _ ?_
      refine c_seqj (fun a w => ∃ (g : Nat → Value) (N : NP), a = A 65 (updl g [(8, .pointer (some ⟨g7, 0, none⟩)), (10, .pointer y26)]) ∧ Bx w N [⟨g7, 26, #[Sl.v Sl.nil, Sl.v Sl.nil, .int .i64 0]⟩, ⟨g5, 26, #[Sl.v a0_0, Sl.v a0_1, .int .i64 a0_2]⟩] ∧ Aft w N (f6_impl_PutLeaf.J2 R y26 )) (fun Q29 n27 o28 => ?_) ?_
      ·
        refine c_seq (fun Q32 n30 o31 => ?_)
        refine c_region ?_
        refine stp (v := .agg #[Sl.v a0_0, Sl.v a0_1, .int .i64 a0_2]) rfl rfl (r_load (v1 := .pointer (some ⟨g5, 0, none⟩)) rfl rfl (bxn (B.get 1 rfl) Try.underlying26 rfl sz26)) ?_
        refine stp (v := .int .i64 a1) rfl rfl (r_move rfl rfl) ?_
        refine stp (v := .int .i64 a2) rfl rfl (r_move rfl rfl) ?_
        refine stpc rfl rfl (r_call (vs := [.agg #[Sl.v a0_0, Sl.v a0_1, .int .i64 a0_2], .int .i64 a1, .int .i64 a2]) rfl rfl (ca25 _ _)) ?_
        refine at_call B H (fun y33 w B H => ?_)
        refine stp (v := .string a3) rfl rfl (r_move rfl rfl) ?_
        refine stp (v := .bool (!(y33.toList == a3.toList))) rfl rfl (r_sneq (s := y33) (t := a3) rfl rfl rfl) ?_
        refine fin ?_
        refine n30 _ _ ?_
        refine c_cond (b := !(y33.toList == a3.toList)) rfl (fun hb34 => ?_) (fun hb34 => ?_)
        · replace H := at_itet hb34 H
          refine c_open 18 (kap [17] []) (fun i b => .pointer (some ⟨b, 0, none⟩)) (fun _ => []) (fun i => []) [0, 1, 2, 3, 4, 5, 6, 7, 8, 9, 10, 11, 12, 13, 14, 15, 16, 17] [] [] _ rfl (by kernel_rfl) (by kernel_rfl) rfl B (flk (by simp) al_nil) ?_
          refine ph_q (v := .pointer y26) rfl rfl rfl (hv_ok rfl rfl) (qy_val rfl (fun w_ ρ_ hb_ => (r_move rfl rfl))) ?_
          obtain ⟨p35, hp36, H'⟩ := at_nn H
          replace H := H'; clear H'
          refine ph_q (v := .pointer (some p35)) rfl rfl rfl (hv_ok rfl rfl) (qy_val rfl (fun w_ ρ_ hb_ => (r_nn rfl (congrArg Value.pointer hp36)))) ?_
          refine ph_q (v := .pointer (some (p35.add 1))) rfl rfl rfl (hv_ok rfl rfl) (qy_val rfl (fun w_ ρ_ hb_ => (r_fieldAddr (v1 := .pointer (some p35)) rfl rfl (fld26_1 _ _)))) ?_
          obtain ⟨x37, hx38, H'⟩ := at_ldcz H
          replace H := H'; clear H'
          refine ph_q (v := Sl.v x37) rfl rfl rfl (hv_ok rfl rfl) (qy_val rfl (fun w_ ρ_ hb_ => (r_load (v1 := .pointer (some (p35.add 1))) rfl rfl (ld1 Try.underlying24 rfl (Cls.ld hx38 hb_))))) ?_
          refine ph_q (v := .int .i64 a1) rfl rfl rfl (hv_ok rfl rfl) (qy_val rfl (fun w_ ρ_ hb_ => (r_move rfl rfl))) ?_
          refine ph_q (v := .pointer y26) rfl rfl rfl (hv_ok rfl rfl) (qy_val rfl (fun w_ ρ_ hb_ => (r_move rfl rfl))) ?_
          refine ph_q (v := .pointer y26) rfl rfl rfl (hv_ok rfl rfl) (qy_val rfl (fun w_ ρ_ hb_ => (r_move rfl rfl))) ?_
          obtain ⟨p39, hp40, H'⟩ := at_nn H
          replace H := H'; clear H'
          refine ph_q (v := .pointer (some p39)) rfl rfl rfl (hv_ok rfl rfl) (qy_val rfl (fun w_ ρ_ hb_ => (r_nn rfl (congrArg Value.pointer hp40)))) ?_
          refine ph_q (v := .pointer (some (p39.add 1))) rfl rfl rfl (hv_ok rfl rfl) (qy_val rfl (fun w_ ρ_ hb_ => (r_fieldAddr (v1 := .pointer (some p39)) rfl rfl (fld26_1 _ _)))) ?_
          obtain ⟨x41, hx42, H'⟩ := at_ldcz H
          replace H := H'; clear H'
          refine ph_q (v := Sl.v x41) rfl rfl rfl (hv_ok rfl rfl) (qy_val rfl (fun w_ ρ_ hb_ => (r_load (v1 := .pointer (some (p39.add 1))) rfl rfl (ld1 Try.underlying24 rfl (Cls.ld hx42 hb_))))) ?_
          refine ph_q (v := .int .i64 a1) rfl rfl rfl (hv_ok rfl rfl) (qy_val rfl (fun w_ ρ_ hb_ => (r_move rfl rfl))) ?_
          obtain ⟨p43, p44, he45, h046, h147, hpa48, H'⟩ := at_idx' H
          replace H := H'; clear H'
          refine ph_q (v := .pointer (some p44)) rfl rfl rfl (hv_ok rfl rfl) (qy_val rfl (fun w_ ρ_ hb_ => (r_indexAddr (v1 := Sl.v x41) (v2 := .int .i64 a1) rfl rfl rfl (ix' Try.underlying24 sz3 he45 h046 h147 hpa48)))) ?_
          obtain ⟨x49, hx50, H'⟩ := at_ldcz H
          replace H := H'; clear H'
          refine ph_q (v := .int .i64 x49) rfl rfl rfl (hv_ok rfl rfl) (qy_val rfl (fun w_ ρ_ hb_ => (r_load (v1 := .pointer (some p44)) rfl rfl (ld1 Try.underlying3 rfl (Cls.ld hx50 hb_))))) ?_
          refine ph_q (v := .pointer (some ⟨g5, 2, none⟩)) rfl rfl rfl (hv_ok rfl rfl) (qy_val rfl (fun w_ ρ_ hb_ => (r_fieldAddr (v1 := .pointer (some ⟨g5, 0, none⟩)) rfl rfl (fld26_2 _ _)))) ?_
          refine ph_q (v := .int .i64 a0_2) rfl rfl rfl (hv_ok rfl rfl) (qy_val rfl (fun w_ ρ_ hb_ => (r_load (v1 := .pointer (some ⟨g5, 2, none⟩)) rfl rfl (ld1 Try.underlying3 rfl (bx1 (hb_.get 1 rfl) rfl rfl))))) ?_
          refine ph_q (v := .int .i64 a2) rfl rfl rfl (hv_ok rfl rfl) (qy_val rfl (fun w_ ρ_ hb_ => (r_move rfl rfl))) ?_
          refine ph_q (v := .string a3) rfl rfl rfl (hv_ok rfl rfl) (qy_val rfl (fun w_ ρ_ hb_ => (r_move rfl rfl))) ?_
          refine ph_e rfl rfl (fun w51 ρ55 hc hs => ?_)
          obtain ⟨hx, N52, hz53, B54⟩ := hc
          replace H := H.step hz53
          clear hz53
          refine ef_call rfl (r_call (vs := [.pointer y26, .int .i64 x49, .int .i64 a0_2, .int .i64 a2, .string a3]) rfl rfl (ca26 _ _)) (at_call B54 H (fun y56 w2 B H => ?_))
          replace H := at_chk H; obtain ⟨hx38, H'⟩ := H; replace H := H'; clear H'
          refine ⟨Cls w2 N52 [⟨g7, 26, #[Sl.v Sl.nil, Sl.v Sl.nil, .int .i64 0]⟩, ⟨g5, 26, #[Sl.v a0_0, Sl.v a0_1, .int .i64 a0_2]⟩] [] [], Cls.now hx B, (flk (by simp) al_nil), (pd_anc (re := [4, 3, 2, 1, 0]) (by kernel_rfl) (re_cons rfl rfl rfl (qy_val rfl (fun w_ ρ_ hb_ => (r_move rfl rfl))) (re_cons rfl rfl rfl (qy_val rfl (fun w_ ρ_ hb_ => (r_load (v1 := .pointer (some (p35.add 1))) rfl rfl (ld1 Try.underlying24 rfl (Cls.ld hx38 hb_))))) (re_cons rfl rfl rfl (qy_val rfl (fun w_ ρ_ hb_ => (r_fieldAddr (v1 := .pointer (some p35)) rfl rfl (fld26_1 _ _)))) (re_cons rfl rfl rfl (qy_val rfl (fun w_ ρ_ hb_ => (r_nn rfl (congrArg Value.pointer hp36)))) (re_cons rfl rfl rfl (qy_val rfl (fun w_ ρ_ hb_ => (r_move rfl rfl))) re_nil)))))), ?_⟩
          clear hx
          replace B := B.sub (List.sublist_append_right _ _)
          refine ph_nil0 (fun w N hz B => ?_)
          replace H := H.step hz
          obtain ⟨p57, p58, he, h0, h1, hpa, H'⟩ := at_idx' H
          replace H := H'; clear H'
          refine stp (v := .pointer (some p58)) rfl rfl (r_indexAddr (v1 := Sl.v x37) (v2 := .int .i64 a1) rfl rfl rfl (ix' Try.underlying24 sz3 he h0 h1 hpa)) ?_
          clear he h0 h1 hpa
          obtain ⟨hc59, hf60, B', H'⟩ := at_stc B H
          replace B := B'; clear B'
          replace H := H'; clear H'
          refine stp0 rfl rfl (r_store (v1 := .pointer (some p58)) (v2 := .int .i64 y56) rfl rfl rfl (st1 rfl sz3 hc59 hf60)) ?_
          refine fin ?_
          exact n27 _ _ ⟨_, _, fr_self rfl, B, H⟩
        · replace H := at_itef hb34 H
          refine c_skip ?_
          exact n27 _ _ ⟨_, _, fr_self rfl, B, H⟩
      ·
        rintro _ w ⟨g, N, rfl, B, H⟩
        refine c_seq (fun Q63 n61 o62 => ?_)
        refine c_seq (fun Q66 n64 o65 => ?_)
        refine c_region ?_
        refine stp (v := .pointer y26) rfl rfl (r_move rfl rfl) ?_
        obtain ⟨p67, hp68, H'⟩ := at_nn H
        replace H := H'; clear H'
        refine stp (v := .pointer (some p67)) rfl rfl (r_nn rfl (congrArg Value.pointer hp68)) ?_
        obtain ⟨x69_0, hx70, H'⟩ := at_ldc H
        replace H := H'; clear H'
        obtain ⟨x69_1, hx71, H'⟩ := at_ldc H
        replace H := H'; clear H'
        obtain ⟨x69_2, hx72, H'⟩ := at_ldc H
        replace H := H'; clear H'
        refine stp (v := .agg #[Sl.v x69_0, Sl.v x69_1, .int .i64 x69_2]) rfl rfl (r_load (v1 := .pointer (some p67)) rfl rfl (ldn (cs := [Sl.v x69_0, Sl.v x69_1, .int .i64 x69_2]) Try.underlying26 rfl sz26 (cells_start (cells_cons (m := 0) (hx70 _ (Below.refl _ _)) (cells_cons (m := 1) (hx71 _ (Below.refl _ _)) (cells_cons (m := 2) (hx72 _ (Below.refl _ _)) cells_nil)))))) ?_
        refine stpc rfl rfl (r_call (vs := [.agg #[Sl.v x69_0, Sl.v x69_1, .int .i64 x69_2]]) rfl rfl (ca8 _ _)) ?_
        refine at_call B H (fun y73 w B H => ?_)
        refine stp (v := .bool (!y73)) rfl rfl (r_not (b := y73) rfl rfl) ?_
        refine fin ?_
        refine n64 _ _ ?_
        refine c_cond (b := !y73) rfl (fun hb74 => ?_) (fun hb74 => ?_)
        · replace H := at_itet hb74 H
          refine c_seq (fun Q77 n75 o76 => ?_)
          refine c_region ?_
          refine stp (v := .agg #[Sl.v Sl.nil, Sl.v Sl.nil, .int .i64 0]) rfl rfl (r_build (qs := []) rfl rfl (site2  _)) ?_
          obtain ⟨w2, hr, B, H⟩ := B.stn H (i := 0) (T := 26) (cs' := #[Sl.v Sl.nil, Sl.v Sl.nil, .int .i64 0]) (ad := ⟨g7, 0, none⟩) rfl rfl rfl rfl sz26
          refine stp0 rfl rfl (r_store (v1 := .pointer (some ⟨g7, 0, none⟩)) (v2 := .agg #[Sl.v Sl.nil, Sl.v Sl.nil, .int .i64 0]) rfl rfl rfl hr) ?_
          replace B : Bx _ _ [⟨g7, 26, #[Sl.v Sl.nil, Sl.v Sl.nil, .int .i64 0]⟩, ⟨g5, 26, #[Sl.v a0_0, Sl.v a0_1, .int .i64 a0_2]⟩] := B
          clear hr
          refine stp (v := .bool false) rfl rfl (r_assign rfl rfl) ?_
          refine fin ?_
          refine n75 _ _ ?_
          refine c_ret (o62 _ _ _ nofun ((done (vs := [.agg #[Sl.v Sl.nil, Sl.v Sl.nil, .int .i64 0], .bool false]) (.cell rfl (bxn (B.get 0 rfl) Try.underlying26 rfl sz26) (.tmp rfl .nil)) rfl ⟨_, rfl, H.now⟩)))
        · replace H := at_itef hb74 H
          refine c_skip ?_
          refine n61 _ _ ?_
          refine c_seq (fun Q80 n78 o79 => ?_)
          refine c_region ?_
          refine stp (v := .pointer y26) rfl rfl (r_move rfl rfl) ?_
          obtain ⟨p81, hp82, H'⟩ := at_nn H
          replace H := H'; clear H'
          refine stp (v := .pointer (some p81)) rfl rfl (r_nn rfl (congrArg Value.pointer hp82)) ?_
          obtain ⟨x83_0, hx84, H'⟩ := at_ldc H
          replace H := H'; clear H'
          obtain ⟨x83_1, hx85, H'⟩ := at_ldc H
          replace H := H'; clear H'
          obtain ⟨x83_2, hx86, H'⟩ := at_ldc H
          replace H := H'; clear H'
          refine stp (v := .agg #[Sl.v x83_0, Sl.v x83_1, .int .i64 x83_2]) rfl rfl (r_load (v1 := .pointer (some p81)) rfl rfl (ldn (cs := [Sl.v x83_0, Sl.v x83_1, .int .i64 x83_2]) Try.underlying26 rfl sz26 (cells_start (cells_cons (m := 0) (hx84 _ (Below.refl _ _)) (cells_cons (m := 1) (hx85 _ (Below.refl _ _)) (cells_cons (m := 2) (hx86 _ (Below.refl _ _)) cells_nil)))))) ?_
          obtain ⟨w2, hr, B, H⟩ := B.stn H (i := 0) (T := 26) (cs' := #[Sl.v x83_0, Sl.v x83_1, .int .i64 x83_2]) (ad := ⟨g7, 0, none⟩) rfl rfl rfl rfl sz26
          refine stp0 rfl rfl (r_store (v1 := .pointer (some ⟨g7, 0, none⟩)) (v2 := .agg #[Sl.v x83_0, Sl.v x83_1, .int .i64 x83_2]) rfl rfl rfl hr) ?_
          replace B : Bx _ _ [⟨g7, 26, #[Sl.v x83_0, Sl.v x83_1, .int .i64 x83_2]⟩, ⟨g5, 26, #[Sl.v a0_0, Sl.v a0_1, .int .i64 a0_2]⟩] := B
          clear hr
          refine stp (v := .bool true) rfl rfl (r_assign rfl rfl) ?_
          refine fin ?_
          refine n78 _ _ ?_
          refine c_ret ((done (vs := [.agg #[Sl.v x83_0, Sl.v x83_1, .int .i64 x83_2], .bool true]) (.cell rfl (bxn (B.get 0 rfl) Try.underlying26 rfl sz26) (.tmp rfl .nil)) rfl ⟨_, rfl, H.now⟩))
def f7_spec_PutLeaf.J1 (R : Value → World → Prop) (a0_0 : Sl) (a0_1 : Sl) (a0_2 : Int) (a1 : Int) (a2 : Int) (a3 : ByteArray) (j1_36 : Bool) : Tm :=
  T.ite j1_36 (T.ret R (.tuple #[.agg #[Sl.v Sl.nil, Sl.v Sl.nil, .int .i64 0], .bool false])) (T.idx a0_1 a1 1 fun (p32 : Addr) => T.ldc p32 (Value.int .i64) fun (x33 : Int) => T.callq Try.prog 29 [.agg #[Sl.v a0_0, Sl.v a0_1, .int .i64 a0_2], .int .i64 x33, .int .i64 a2] Value.string fun (y35 : ByteArray) => T.ite (y35.toList == a3.toList) (T.call Try.prog 30 [.agg #[Sl.v a0_0, Sl.v a0_1, .int .i64 a0_2]] (fun (z : Sl × Sl × Int) => .agg #[Sl.v z.1, Sl.v z.2.1, .int .i64 z.2.2]) fun (y40 : Sl × Sl × Int) => T.ret R (.tuple #[.agg #[Sl.v y40.1, Sl.v y40.2.1, .int .i64 y40.2.2], .bool true])) (T.idx a0_1 a1 1 fun (p45 : Addr) => T.ldc p45 (Value.int .i64) fun (x50 : Int) => T.call Try.prog 30 [.agg #[Sl.v a0_0, Sl.v a0_1, .int .i64 a0_2]] (fun (z : Sl × Sl × Int) => .agg #[Sl.v z.1, Sl.v z.2.1, .int .i64 z.2.2]) fun (y57 : Sl × Sl × Int) => T.chk p45 (Value.int .i64) x50 (T.call Try.prog 31 [.agg #[Sl.v y57.1, Sl.v y57.2.1, .int .i64 y57.2.2], .int .i64 x50, .int .i64 a0_2, .int .i64 a2, .string a3] (fun (z : Sl × Sl × Int × Int) => .tuple #[.agg #[Sl.v z.1, Sl.v z.2.1, .int .i64 z.2.2.1], .int .i64 z.2.2.2]) fun (y63 : Sl × Sl × Int × Int) => T.idx y63.2.1 a1 1 fun (p74 : Addr) => T.stc p74 (.int .i64 y63.2.2.2) (T.call Try.prog 9 [.agg #[Sl.v y63.1, Sl.v y63.2.1, .int .i64 y63.2.2.1]] Value.bool fun (y83 : Bool) => T.ite (!y83) (T.ret R (.tuple #[.agg #[Sl.v Sl.nil, Sl.v Sl.nil, .int .i64 0], .bool false])) (T.ret R (.tuple #[.agg #[Sl.v y63.1, Sl.v y63.2.1, .int .i64 y63.2.2.1], .bool true]))))))
def f7_spec_PutLeaf.T (R : Value → World → Prop) (a0_0 : Sl) (a0_1 : Sl) (a0_2 : Int) (a1 : Int) (a2 : Int) (a3 : ByteArray) : Tm :=
  T.call Try.prog 9 [.agg #[Sl.v a0_0, Sl.v a0_1, .int .i64 a0_2]] Value.bool fun (y14 : Bool) => T.ite (!y14) (f7_spec_PutLeaf.J1 R a0_0 a0_1 a0_2 a1 a2 a3 true) (T.call Try.prog 27 [.int .i64 a1, .int .i64 0, .int .i64 (IntKind.i64.wrap ((a0_1.n : Int) - 1))] Value.bool fun (y16 : Bool) => T.ite (!y16) (f7_spec_PutLeaf.J1 R a0_0 a0_1 a0_2 a1 a2 a3 true) (T.call Try.prog 28 [.agg #[Sl.v a0_0, Sl.v a0_1, .int .i64 a0_2]] (Value.int .i64) fun (y18 : Int) => T.call Try.prog 27 [.int .i64 a2, .int .i64 0, .int .i64 (IntKind.i64.wrap (y18 - 1))] Value.bool fun (y19 : Bool) => T.ite (!y19) (f7_spec_PutLeaf.J1 R a0_0 a0_1 a0_2 a1 a2 a3 true) (f7_spec_PutLeaf.J1 R a0_0 a0_1 a0_2 a1 a2 a3 (decide (8 < (a3.size : Int))))))
set_option maxHeartbeats 4000000 in
set_option maxRecDepth 100000 in
theorem f7_spec_PutLeaf.ok (R : Value → World → Prop) (a0_0 : Sl) (a0_1 : Sl) (a0_2 : Int) (a1 : Int) (a2 : Int) (a3 : ByteArray) (w : World) (h : Aft w (fun _ => False) (f7_spec_PutLeaf.T R a0_0 a0_1 a0_2 a1 a2 a3)) :
    Calls Try.prog 7 (List.toArray [.agg #[Sl.v a0_0, Sl.v a0_1, .int .i64 a0_2], .int .i64 a1, .int .i64 a2, .string a3]) w fun e w' => ∃ v, e = .returned v ∧ R v w' := by
  refine enter 75 Try.func7 rfl rfl rfl ?_
  have B := Bx.nil w
  have H := h
  clear h
  refine c_seq (fun Q3 n1 o2 => ?_)
  refine c_region ?_
  obtain ⟨w4, N, g5, hw, hg, B, H⟩ := B.new H 26 #[Sl.v a0_0, Sl.v a0_1, .int .i64 a0_2]
  refine stp (v := .pointer (some ⟨g5, 0, none⟩)) (w' := w4) rfl rfl (r_box (v1 := .agg #[Sl.v a0_0, Sl.v a0_1, .int .i64 a0_2]) rfl rfl (box_run rfl hw hg)) ?_
  clear hw hg
  obtain ⟨w6, N, g7, hw, hg, B, H⟩ := B.new H 26 #[Sl.v Sl.nil, Sl.v Sl.nil, .int .i64 0]
  refine stp (v := .pointer (some ⟨g7, 0, none⟩)) (w' := w6) rfl rfl (r_alloc rfl (alloc_run (al26 _) hw hg)) ?_
  clear hw hg
  refine stp (v := .bool false) rfl rfl (r_assign rfl rfl) ?_
  refine fin ?_
  refine n1 _ _ ?_
  refine c_seq (fun Q10 n8 o9 => ?_)
  refine c_seqj (fun a w => ∃ (j1_36 : Bool) (g : Nat → Value) (N : NP), a = A 75 (updl g [(1, .int .i64 a1), (2, .int .i64 a2), (3, .string a3), (4, .pointer (some ⟨g5, 0, none⟩)), (8, .pointer (some ⟨g7, 0, none⟩)), (36, .bool j1_36)]) ∧ Bx w N [⟨g7, 26, #[Sl.v Sl.nil, Sl.v Sl.nil, .int .i64 0]⟩, ⟨g5, 26, #[Sl.v a0_0, Sl.v a0_1, .int .i64 a0_2]⟩] ∧ Aft w N (f7_spec_PutLeaf.J1 R a0_0 a0_1 a0_2 a1 a2 a3 j1_36)) (fun Q13 n11 o12 => ?_) ?_
  ·
    refine c_region ?_
    refine stp (v := .agg #[Sl.v a0_0, Sl.v a0_1, .int .i64 a0_2]) rfl rfl (r_load (v1 := .pointer (some ⟨g5, 0, none⟩)) rfl rfl (bxn (B.get 1 rfl) Try.underlying26 rfl sz26)) ?_
    refine stpc rfl rfl (r_call (vs := [.agg #[Sl.v a0_0, Sl.v a0_1, .int .i64 a0_2]]) rfl rfl (ca9 _ _)) ?_
    refine at_call B H (fun y14 w B H => ?_)
    refine stp (v := .bool (!y14)) rfl rfl (r_not (b := y14) rfl rfl) ?_
    refine stp (v := .bool (!y14)) rfl rfl (r_move rfl rfl) ?_
    rcases Bool.eq_false_or_eq_true (!y14) with hb15 | hb15
    · replace H := at_itet hb15 H
      refine skp (un rfl rfl rfl rfl (congrArg Value.bool hb15) nofun) rfl ?_
      refine skp (un rfl rfl rfl rfl (congrArg Value.bool hb15) nofun) rfl ?_
      refine skp (un rfl rfl rfl rfl (congrArg Value.bool hb15) nofun) rfl ?_
      refine skp (un rfl rfl rfl rfl (congrArg Value.bool hb15) nofun) rfl ?_
      refine skp (un rfl rfl rfl rfl (congrArg Value.bool hb15) nofun) rfl ?_
      refine skp (un rfl rfl rfl rfl (congrArg Value.bool hb15) nofun) rfl ?_
      refine skp (un rfl rfl rfl rfl (congrArg Value.bool hb15) nofun) rfl ?_
      refine stp (v := .bool true) rfl rfl (r_pickt rfl (congrArg Value.bool hb15) rfl) ?_
      refine stp (v := .bool true) rfl rfl (r_move rfl rfl) ?_
      refine skp (un rfl rfl rfl rfl rfl nofun) rfl ?_
      refine skp (un rfl rfl rfl rfl rfl nofun) rfl ?_
      refine skp (un rfl rfl rfl rfl rfl nofun) rfl ?_
      refine skp (un rfl rfl rfl rfl rfl nofun) rfl ?_
      refine skp (un rfl rfl rfl rfl rfl nofun) rfl ?_
      refine skp (un rfl rfl rfl rfl rfl nofun) rfl ?_
      refine stp (v := .bool true) rfl rfl (r_pickt rfl rfl rfl) ?_
      refine stp (v := .bool true) rfl rfl (r_move rfl rfl) ?_
      refine skp (un rfl rfl rfl rfl rfl nofun) rfl ?_
      refine skp (un rfl rfl rfl rfl rfl nofun) rfl ?_
      refine skp (un rfl rfl rfl rfl rfl nofun) rfl ?_
      refine stp (v := .bool true) rfl rfl (r_pickt rfl rfl rfl) ?_
      refine fin ?_
      exact n11 _ _ ⟨true, _, _, fr_self rfl, B, H⟩
    · replace H := at_itef hb15 H
      refine stp (v := .int .i64 a1) (wn rfl rfl rfl rfl (congrArg Value.bool hb15)) rfl (r_move rfl rfl) ?_
      refine stp (v := .pointer (some ⟨g5, 1, none⟩)) (wn rfl rfl rfl rfl (congrArg Value.bool hb15)) rfl (r_fieldAddr (v1 := .pointer (some ⟨g5, 0, none⟩)) rfl rfl (fld26_1 _ _)) ?_
      refine stp (v := Sl.v a0_1) (wn rfl rfl rfl rfl (congrArg Value.bool hb15)) rfl (r_load (v1 := .pointer (some ⟨g5, 1, none⟩)) rfl rfl (ld1 Try.underlying24 rfl (bx1 (B.get 1 rfl) rfl rfl))) ?_
      refine stp (v := .int .i64 (a0_1.n : Int)) (wn rfl rfl rfl rfl (congrArg Value.bool hb15)) rfl (r_builtin (vs := [Sl.v a0_1]) rfl rfl (fun _ => lenl Try.underlying24)) ?_
      refine stp (v := .int .i64 (IntKind.i64.wrap ((a0_1.n : Int) - 1))) (wn rfl rfl rfl rfl (congrArg Value.bool hb15)) rfl (r_sub (a := (a0_1.n : Int)) (b := 1) rfl rfl rfl) ?_
      refine stpc (wn rfl rfl rfl rfl (congrArg Value.bool hb15)) rfl (r_call (vs := [.int .i64 a1, .int .i64 0, .int .i64 (IntKind.i64.wrap ((a0_1.n : Int) - 1))]) rfl rfl (ca27 _ _)) ?_
      refine at_call B H (fun y16 w B H => ?_)
      refine stp (v := .bool (!y16)) (wn rfl rfl rfl rfl (congrArg Value.bool hb15)) rfl (r_not (b := y16) rfl rfl) ?_
      refine stp (v := .bool (!y16)) rfl rfl (r_pickf rfl (congrArg Value.bool hb15) rfl) ?_
      refine stp (v := .bool (!y16)) rfl rfl (r_move rfl rfl) ?_
      rcases Bool.eq_false_or_eq_true (!y16) with hb17 | hb17
      · replace H := at_itet hb17 H
        refine skp (un rfl rfl rfl rfl (congrArg Value.bool hb17) nofun) rfl ?_
        refine skp (un rfl rfl rfl rfl (congrArg Value.bool hb17) nofun) rfl ?_
        refine skp (un rfl rfl rfl rfl (congrArg Value.bool hb17) nofun) rfl ?_
        refine skp (un rfl rfl rfl rfl (congrArg Value.bool hb17) nofun) rfl ?_
        refine skp (un rfl rfl rfl rfl (congrArg Value.bool hb17) nofun) rfl ?_
        refine skp (un rfl rfl rfl rfl (congrArg Value.bool hb17) nofun) rfl ?_
        refine stp (v := .bool true) rfl rfl (r_pickt rfl (congrArg Value.bool hb17) rfl) ?_
        refine stp (v := .bool true) rfl rfl (r_move rfl rfl) ?_
        refine skp (un rfl rfl rfl rfl rfl nofun) rfl ?_
        refine skp (un rfl rfl rfl rfl rfl nofun) rfl ?_
        refine skp (un rfl rfl rfl rfl rfl nofun) rfl ?_
        refine stp (v := .bool true) rfl rfl (r_pickt rfl rfl rfl) ?_
        refine fin ?_
        exact n11 _ _ ⟨true, _, _, fr_self rfl, B, H⟩
      · replace H := at_itef hb17 H
        refine stp (v := .int .i64 a2) (wn rfl rfl rfl rfl (congrArg Value.bool hb17)) rfl (r_move rfl rfl) ?_
        refine stp (v := .agg #[Sl.v a0_0, Sl.v a0_1, .int .i64 a0_2]) (wn rfl rfl rfl rfl (congrArg Value.bool hb17)) rfl (r_load (v1 := .pointer (some ⟨g5, 0, none⟩)) rfl rfl (bxn (B.get 1 rfl) Try.underlying26 rfl sz26)) ?_
        refine stpc (wn rfl rfl rfl rfl (congrArg Value.bool hb17)) rfl (r_call (vs := [.agg #[Sl.v a0_0, Sl.v a0_1, .int .i64 a0_2]]) rfl rfl (ca28 _ _)) ?_
        refine at_call B H (fun y18 w B H => ?_)
        refine stp (v := .int .i64 (IntKind.i64.wrap (y18 - 1))) (wn rfl rfl rfl rfl (congrArg Value.bool hb17)) rfl (r_sub (a := y18) (b := 1) rfl rfl rfl) ?_
        refine stpc (wn rfl rfl rfl rfl (congrArg Value.bool hb17)) rfl (r_call (vs := [.int .i64 a2, .int .i64 0, .int .i64 (IntKind.i64.wrap (y18 - 1))]) rfl rfl (ca27 _ _)) ?_
        refine at_call B H (fun y19 w B H => ?_)
        refine stp (v := .bool (!y19)) (wn rfl rfl rfl rfl (congrArg Value.bool hb17)) rfl (r_not (b := y19) rfl rfl) ?_
        refine stp (v := .bool (!y19)) rfl rfl (r_pickf rfl (congrArg Value.bool hb17) rfl) ?_
        refine stp (v := .bool (!y19)) rfl rfl (r_move rfl rfl) ?_
        rcases Bool.eq_false_or_eq_true (!y19) with hb20 | hb20
        · replace H := at_itet hb20 H
          refine skp (un rfl rfl rfl rfl (congrArg Value.bool hb20) nofun) rfl ?_
          refine skp (un rfl rfl rfl rfl (congrArg Value.bool hb20) nofun) rfl ?_
          refine skp (un rfl rfl rfl rfl (congrArg Value.bool hb20) nofun) rfl ?_
          refine stp (v := .bool true) rfl rfl (r_pickt rfl (congrArg Value.bool hb20) rfl) ?_
          refine fin ?_
          exact n11 _ _ ⟨true, _, _, fr_self rfl, B, H⟩
        · replace H := at_itef hb20 H
          refine stp (v := .string a3) (wn rfl rfl rfl rfl (congrArg Value.bool hb20)) rfl (r_move rfl rfl) ?_
          refine stp (v := .int .i64 (a3.size : Int)) (wn rfl rfl rfl rfl (congrArg Value.bool hb20)) rfl (r_builtin (vs := [.string a3]) rfl rfl (fun _ => lens Try.underlying9)) ?_
          refine stp (v := .bool (decide (8 < (a3.size : Int)))) (wn rfl rfl rfl rfl (congrArg Value.bool hb20)) rfl (r_gtr (a := (a3.size : Int)) (b := 8) rfl rfl rfl) ?_
          refine stp (v := .bool (decide (8 < (a3.size : Int)))) rfl rfl (r_pickf rfl (congrArg Value.bool hb20) rfl) ?_
          refine fin ?_
          exact n11 _ _ ⟨decide (8 < (a3.size : Int)), _, _, fr_self rfl, B, H⟩
  ·
    rintro _ w ⟨j1_36, g, N, rfl, B, H⟩
    refine c_cond (b := j1_36) rfl (fun hb21 => ?_) (fun hb21 => ?_)
    · replace H := at_itet hb21 H
      refine c_seq (fun Q24 n22 o23 => ?_)
      refine c_region ?_
      refine stp (v := .agg #[Sl.v Sl.nil, Sl.v Sl.nil, .int .i64 0]) rfl rfl (r_build (qs := []) rfl rfl (site2  _)) ?_
      obtain ⟨w2, hr, B, H⟩ := B.stn H (i := 0) (T := 26) (cs' := #[Sl.v Sl.nil, Sl.v Sl.nil, .int .i64 0]) (ad := ⟨g7, 0, none⟩) rfl rfl rfl rfl sz26
      refine stp0 rfl rfl (r_store (v1 := .pointer (some ⟨g7, 0, none⟩)) (v2 := .agg #[Sl.v Sl.nil, Sl.v Sl.nil, .int .i64 0]) rfl rfl rfl hr) ?_
      replace B : Bx _ _ [⟨g7, 26, #[Sl.v Sl.nil, Sl.v Sl.nil, .int .i64 0]⟩, ⟨g5, 26, #[Sl.v a0_0, Sl.v a0_1, .int .i64 a0_2]⟩] := B
      clear hr
      refine stp (v := .bool false) rfl rfl (r_assign rfl rfl) ?_
      refine fin ?_
      refine n22 _ _ ?_
      refine c_ret (o9 _ _ _ nofun ((done (vs := [.agg #[Sl.v Sl.nil, Sl.v Sl.nil, .int .i64 0], .bool false]) (.cell rfl (bxn (B.get 0 rfl) Try.underlying26 rfl sz26) (.tmp rfl .nil)) rfl ⟨_, rfl, H.now⟩)))
    · replace H := at_itef hb21 H
      refine c_skip ?_
      refine n8 _ _ ?_
      refine c_seq (fun Q27 n25 o26 => ?_)
      refine c_seq (fun Q30 n28 o29 => ?_)
      refine c_quiet rfl (by kernel_rfl) ?_
      refine qstp (v := .agg #[Sl.v a0_0, Sl.v a0_1, .int .i64 a0_2]) rfl rfl (fun w_ hb_ => (r_load (v1 := .pointer (some ⟨g5, 0, none⟩)) rfl rfl (bxn ((B.quiet (Qt.of_below hb_)).get 1 rfl) Try.underlying26 rfl sz26))) ?_
      refine qstp (v := .pointer (some ⟨g5, 1, none⟩)) rfl rfl (fun w_ hb_ => (r_fieldAddr (v1 := .pointer (some ⟨g5, 0, none⟩)) rfl rfl (fld26_1 _ _))) ?_
      refine qstp (v := Sl.v a0_1) rfl rfl (fun w_ hb_ => (r_load (v1 := .pointer (some ⟨g5, 1, none⟩)) rfl rfl (ld1 Try.underlying24 rfl (bx1 ((B.quiet (Qt.of_below hb_)).get 1 rfl) rfl rfl)))) ?_
      refine qstp (v := .int .i64 a1) rfl rfl (fun w_ hb_ => (r_move rfl rfl)) ?_
      obtain ⟨p31, p32, he, h0, h1, hpa, H'⟩ := at_idx' H
      replace H := H'; clear H'
      refine qstp (v := .pointer (some p32)) rfl rfl (fun w_ hb_ => (r_indexAddr (v1 := Sl.v a0_1) (v2 := .int .i64 a1) rfl rfl rfl (ix' Try.underlying24 sz3 he h0 h1 hpa))) ?_
      clear he h0 h1 hpa
      obtain ⟨x33, hx34, H'⟩ := at_ldc H
      replace H := H'; clear H'
      refine qstp (v := .int .i64 x33) rfl rfl (fun w_ hb_ => (r_load (v1 := .pointer (some p32)) rfl rfl (ld1 Try.underlying3 rfl (hx34 _ hb_)))) ?_
      refine qstp (v := .int .i64 a2) rfl rfl (fun w_ hb_ => (r_move rfl rfl)) ?_
      obtain ⟨y35, hC, H'⟩ := at_callq H
      replace H := H'; clear H'
      refine qstpc (v := .string y35) rfl rfl (fun w_ hb_ => r_call (vs := [.agg #[Sl.v a0_0, Sl.v a0_1, .int .i64 a0_2], .int .i64 x33, .int .i64 a2]) rfl rfl (ca29 _ _)) (fun w_ hb_ => hC w_ hb_) ?_
      clear hC
      refine qstp (v := .string a3) rfl rfl (fun w_ hb_ => (r_move rfl rfl)) ?_
      refine qstp (v := .bool (y35.toList == a3.toList)) rfl rfl (fun w_ hb_ => (r_seql (s := y35) (t := a3) rfl rfl rfl)) ?_
      refine qfin (fun w hb => ?_)
      replace B := B.quiet (Qt.of_below hb)
      replace H := H.step (Nz.of_below hb)
      refine n28 _ _ ?_
      refine c_cond (b := y35.toList == a3.toList) rfl (fun hb36 => ?_) (fun hb36 => ?_)
      · replace H := at_itet hb36 H
        refine c_seq (fun Q39 n37 o38 => ?_)
        refine c_region ?_
        refine stp (v := .agg #[Sl.v a0_0, Sl.v a0_1, .int .i64 a0_2]) rfl rfl (r_load (v1 := .pointer (some ⟨g5, 0, none⟩)) rfl rfl (bxn (B.get 1 rfl) Try.underlying26 rfl sz26)) ?_
        refine stpc rfl rfl (r_call (vs := [.agg #[Sl.v a0_0, Sl.v a0_1, .int .i64 a0_2]]) rfl rfl (ca30 _ _)) ?_
        refine at_call B H (fun y40 w B H => ?_)
        obtain ⟨w2, hr, B, H⟩ := B.stn H (i := 0) (T := 26) (cs' := #[Sl.v y40.1, Sl.v y40.2.1, .int .i64 y40.2.2]) (ad := ⟨g7, 0, none⟩) rfl rfl rfl rfl sz26
        refine stp0 rfl rfl (r_store (v1 := .pointer (some ⟨g7, 0, none⟩)) (v2 := .agg #[Sl.v y40.1, Sl.v y40.2.1, .int .i64 y40.2.2]) rfl rfl rfl hr) ?_
        replace B : Bx _ _ [⟨g7, 26, #[Sl.v y40.1, Sl.v y40.2.1, .int .i64 y40.2.2]⟩, ⟨g5, 26, #[Sl.v a0_0, Sl.v a0_1, .int .i64 a0_2]⟩] := B
        clear hr
        refine stp (v := .bool true) rfl rfl (r_assign rfl rfl) ?_
        refine fin ?_
        refine n37 _ _ ?_
        refine c_ret (o26 _ _ _ nofun ((done (vs := [.agg #[Sl.v y40.1, Sl.v y40.2.1, .int .i64 y40.2.2], .bool true]) (.cell rfl (bxn (B.get 0 rfl) Try.underlying26 rfl sz26) (.tmp rfl .nil)) rfl ⟨_, rfl, H.now⟩)))
      · replace H := at_itef hb36 H
        refine c_skip ?_
        refine n25 _ _ ?_
        refine c_seq (fun Q43 n41 o42 => ?_)
        refine c_open 17 (kap [1, 11, 16] [15]) (fun i b => .pointer (some ⟨b, 0, none⟩)) (fun _ => []) (fun i => bif Nat.beq i 16 then [(15, 10)] else []) [0, 2, 3, 4, 5, 6, 7, 8, 9, 10, 1, 11, 12, 13, 14, 16] [(15, 10)] [(15, 26, #[Sl.v Sl.nil, Sl.v Sl.nil, .int .i64 0])] _ rfl (by kernel_rfl) (by kernel_rfl) rfl B (flk (by simp) (al_cons rfl (.inr rfl) (fun _ g hg => (r_alloc rfl (alloc_run (al26 _) rfl rfl))) al_nil)) ?_
        refine ph_q (v := .agg #[Sl.v a0_0, Sl.v a0_1, .int .i64 a0_2]) rfl rfl rfl (hv_ok rfl rfl) (qy_val rfl (fun w_ ρ_ hb_ => (r_load (v1 := .pointer (some ⟨g5, 0, none⟩)) rfl rfl (bxn (hb_.get 1 rfl) Try.underlying26 rfl sz26)))) ?_
        refine ph_q (v := .pointer (some ⟨g5, 1, none⟩)) rfl rfl rfl (hv_ok rfl rfl) (qy_val rfl (fun w_ ρ_ hb_ => (r_fieldAddr (v1 := .pointer (some ⟨g5, 0, none⟩)) rfl rfl (fld26_1 _ _)))) ?_
        refine ph_q (v := Sl.v a0_1) rfl rfl rfl (hv_ok rfl rfl) (qy_val rfl (fun w_ ρ_ hb_ => (r_load (v1 := .pointer (some ⟨g5, 1, none⟩)) rfl rfl (ld1 Try.underlying24 rfl (bx1 (hb_.get 1 rfl) rfl rfl))))) ?_
        refine ph_q (v := .int .i64 a1) rfl rfl rfl (hv_ok rfl rfl) (qy_val rfl (fun w_ ρ_ hb_ => (r_move rfl rfl))) ?_
        obtain ⟨p44, p45, he46, h047, h148, hpa49, H'⟩ := at_idx' H
        replace H := H'; clear H'
        refine ph_q (v := .pointer (some p45)) rfl rfl rfl (hv_ok rfl rfl) (qy_val rfl (fun w_ ρ_ hb_ => (r_indexAddr (v1 := Sl.v a0_1) (v2 := .int .i64 a1) rfl rfl rfl (ix' Try.underlying24 sz3 he46 h047 h148 hpa49)))) ?_
        obtain ⟨x50, hx51, H'⟩ := at_ldcz H
        replace H := H'; clear H'
        refine ph_q (v := .int .i64 x50) rfl rfl rfl (hv_ok rfl rfl) (qy_val rfl (fun w_ ρ_ hb_ => (r_load (v1 := .pointer (some p45)) rfl rfl (ld1 Try.underlying3 rfl (Cls.ld hx51 hb_))))) ?_
        refine ph_q (v := .pointer (some ⟨g5, 2, none⟩)) rfl rfl rfl (hv_ok rfl rfl) (qy_val rfl (fun w_ ρ_ hb_ => (r_fieldAddr (v1 := .pointer (some ⟨g5, 0, none⟩)) rfl rfl (fld26_2 _ _)))) ?_
        refine ph_q (v := .int .i64 a0_2) rfl rfl rfl (hv_ok rfl rfl) (qy_val rfl (fun w_ ρ_ hb_ => (r_load (v1 := .pointer (some ⟨g5, 2, none⟩)) rfl rfl (ld1 Try.underlying3 rfl (bx1 (hb_.get 1 rfl) rfl rfl))))) ?_
        refine ph_q (v := .int .i64 a2) rfl rfl rfl (hv_ok rfl rfl) (qy_val rfl (fun w_ ρ_ hb_ => (r_move rfl rfl))) ?_
        refine ph_q (v := .string a3) rfl rfl rfl (hv_ok rfl rfl) (qy_val rfl (fun w_ ρ_ hb_ => (r_move rfl rfl))) ?_
        refine ph_e rfl rfl (fun w52 ρ56 hc hs => ?_)
        obtain ⟨hx, N53, hz54, B55⟩ := hc
        replace H := H.step hz54
        clear hz54
        refine ef_call rfl (r_call (vs := [.agg #[Sl.v a0_0, Sl.v a0_1, .int .i64 a0_2]]) rfl rfl (ca30 _ _)) (at_call B55 H (fun y57 w2 B H => ?_))
        replace H := at_chk H; obtain ⟨hx51, H'⟩ := H; replace H := H'; clear H'
        refine ⟨Cls w2 N53 [⟨g7, 26, #[Sl.v Sl.nil, Sl.v Sl.nil, .int .i64 0]⟩, ⟨g5, 26, #[Sl.v a0_0, Sl.v a0_1, .int .i64 a0_2]⟩] [(15, 26, #[Sl.v Sl.nil, Sl.v Sl.nil, .int .i64 0])] [], Cls.now hx B, (flk (by simp) (al_cons rfl (.inr rfl) (fun _ g hg => (r_alloc rfl (alloc_run (al26 _) rfl rfl))) al_nil)), (pd_anc (re := [10, 9, 8, 7, 6, 5, 4, 3, 2]) (by kernel_rfl) (re_cons rfl rfl rfl (qy_val rfl (fun w_ ρ_ hb_ => (r_move rfl rfl))) (re_cons rfl rfl rfl (qy_val rfl (fun w_ ρ_ hb_ => (r_move rfl rfl))) (re_cons rfl rfl rfl (qy_val rfl (fun w_ ρ_ hb_ => (r_load (v1 := .pointer (some ⟨g5, 2, none⟩)) rfl rfl (ld1 Try.underlying3 rfl (bx1 (hb_.get 1 rfl) rfl rfl))))) (re_cons rfl rfl rfl (qy_val rfl (fun w_ ρ_ hb_ => (r_fieldAddr (v1 := .pointer (some ⟨g5, 0, none⟩)) rfl rfl (fld26_2 _ _)))) (re_cons rfl rfl rfl (qy_val rfl (fun w_ ρ_ hb_ => (r_load (v1 := .pointer (some p45)) rfl rfl (ld1 Try.underlying3 rfl (Cls.ld hx51 hb_))))) (re_cons rfl rfl rfl (qy_val rfl (fun w_ ρ_ hb_ => (r_indexAddr (v1 := Sl.v a0_1) (v2 := .int .i64 a1) rfl rfl rfl (ix' Try.underlying24 sz3 he46 h047 h148 hpa49)))) (re_cons rfl rfl rfl (qy_val rfl (fun w_ ρ_ hb_ => (r_move rfl rfl))) (re_cons rfl rfl rfl (qy_val rfl (fun w_ ρ_ hb_ => (r_load (v1 := .pointer (some ⟨g5, 1, none⟩)) rfl rfl (ld1 Try.underlying24 rfl (bx1 (hb_.get 1 rfl) rfl rfl))))) (re_cons rfl rfl rfl (qy_val rfl (fun w_ ρ_ hb_ => (r_fieldAddr (v1 := .pointer (some ⟨g5, 0, none⟩)) rfl rfl (fld26_1 _ _)))) re_nil)))))))))), ?_⟩
        clear hx
        replace B := B.sub (List.sublist_append_right _ _)
        refine ph_e rfl rfl (fun w58 ρ62 hc hs => ?_)
        obtain ⟨hx, N59, hz60, B61⟩ := hc
        replace H := H.step hz60
        clear hz60
        refine ef_call rfl (r_call (vs := [.agg #[Sl.v y57.1, Sl.v y57.2.1, .int .i64 y57.2.2], .int .i64 x50, .int .i64 a0_2, .int .i64 a2, .string a3]) rfl rfl (ca31 _ _)) (at_call B61 H (fun y63 w2 B H => ?_))
        refine ⟨Cls w2 N59 [⟨g7, 26, #[Sl.v Sl.nil, Sl.v Sl.nil, .int .i64 0]⟩, ⟨g5, 26, #[Sl.v a0_0, Sl.v a0_1, .int .i64 a0_2]⟩] [(15, 26, #[Sl.v Sl.nil, Sl.v Sl.nil, .int .i64 0])] [], Cls.now hx B, (flk (by simp) (al_cons rfl (.inr rfl) (fun _ g hg => (r_alloc rfl (alloc_run (al26 _) rfl rfl))) al_nil)), (pd_anc (re := []) (by kernel_rfl) re_nil), ?_⟩
        clear hx
        replace B := B.sub (List.sublist_append_right _ _)
        refine ph_q (v := .tuple #[.agg #[Sl.v y63.1, Sl.v y63.2.1, .int .i64 y63.2.2.1], .int .i64 y63.2.2.2]) rfl rfl rfl (hv_ok rfl rfl) (qy_val rfl (fun w_ ρ_ hb_ => (r_move rfl rfl))) ?_
        refine ph_q (v := .agg #[Sl.v y63.1, Sl.v y63.2.1, .int .i64 y63.2.2.1]) rfl rfl rfl (hv_ok rfl rfl) (qy_val rfl (fun w_ ρ_ hb_ => (r_extract (v1 := .tuple #[.agg #[Sl.v y63.1, Sl.v y63.2.1, .int .i64 y63.2.2.1], .int .i64 y63.2.2.2]) rfl rfl rfl))) ?_
        refine ph_q (v := .int .i64 y63.2.2.2) rfl rfl rfl (hv_ok rfl rfl) (qy_val rfl (fun w_ ρ_ hb_ => (r_extract (v1 := .tuple #[.agg #[Sl.v y63.1, Sl.v y63.2.1, .int .i64 y63.2.2.1], .int .i64 y63.2.2.2]) rfl rfl rfl))) ?_
        refine ph_e rfl rfl (fun w64 ρ68 hc hs => ?_)
        obtain ⟨hx, N65, hz66, B67⟩ := hc
        replace H := H.step hz66
        clear hz66
        obtain ⟨g69, hg15⟩ := Option.isSome_iff_exists.1 (hs (15, 10) (by simp))
        replace B67 : Bx w64 N65 (flb [] ρ68 ++ [⟨g7, 26, #[Sl.v Sl.nil, Sl.v Sl.nil, .int .i64 0]⟩, ⟨g5, 26, #[Sl.v a0_0, Sl.v a0_1, .int .i64 a0_2]⟩, ⟨g69, 26, #[Sl.v Sl.nil, Sl.v Sl.nil, .int .i64 0]⟩]) := (show Bx w64 N65 (⟨g69, 26, #[Sl.v Sl.nil, Sl.v Sl.nil, .int .i64 0]⟩ :: (flb [] ρ68 ++ [⟨g7, 26, #[Sl.v Sl.nil, Sl.v Sl.nil, .int .i64 0]⟩, ⟨g5, 26, #[Sl.v a0_0, Sl.v a0_1, .int .i64 a0_2]⟩])) by simpa only [flb, List.filterMap_cons, hg15, Option.map_some, List.cons_append] using B67).perm (by rw [show ([⟨g7, 26, #[Sl.v Sl.nil, Sl.v Sl.nil, .int .i64 0]⟩, ⟨g5, 26, #[Sl.v a0_0, Sl.v a0_1, .int .i64 a0_2]⟩, ⟨g69, 26, #[Sl.v Sl.nil, Sl.v Sl.nil, .int .i64 0]⟩] : List Bk) = ([⟨g7, 26, #[Sl.v Sl.nil, Sl.v Sl.nil, .int .i64 0]⟩, ⟨g5, 26, #[Sl.v a0_0, Sl.v a0_1, .int .i64 a0_2]⟩] : List Bk) ++ ([⟨g69, 26, #[Sl.v Sl.nil, Sl.v Sl.nil, .int .i64 0]⟩] : List Bk) from rfl, ← List.append_assoc]; exact (List.perm_append_singleton _ _))
        replace hx := hx_cons hg15 hx
        refine EF_frame (f' := updl _ [(10, .pointer (some ⟨g69, 0, none⟩))]) (wfl_cons hg15 rfl wfl_nil) ?_
        replace B67 : Bx _ _ ([⟨g7, 26, #[Sl.v Sl.nil, Sl.v Sl.nil, .int .i64 0]⟩, ⟨g5, 26, #[Sl.v a0_0, Sl.v a0_1, .int .i64 a0_2]⟩, ⟨g69, 26, #[Sl.v Sl.nil, Sl.v Sl.nil, .int .i64 0]⟩] ++ flb [] ρ68) := B67.perm List.perm_append_comm
        obtain ⟨w2, hr, B, H⟩ := B67.stn H (i := 2) (T := 26) (cs' := #[Sl.v y63.1, Sl.v y63.2.1, .int .i64 y63.2.2.1]) (ad := ⟨g69, 0, none⟩) rfl rfl rfl rfl sz26
        refine ef_skp (w' := w2) rfl (r_store (v1 := .pointer (some ⟨g69, 0, none⟩)) (v2 := .agg #[Sl.v y63.1, Sl.v y63.2.1, .int .i64 y63.2.2.1]) rfl rfl rfl hr) ?_
        clear hr
        replace B : Bx _ _ ([⟨g7, 26, #[Sl.v Sl.nil, Sl.v Sl.nil, .int .i64 0]⟩, ⟨g5, 26, #[Sl.v a0_0, Sl.v a0_1, .int .i64 a0_2]⟩, ⟨g69, 26, #[Sl.v y63.1, Sl.v y63.2.1, .int .i64 y63.2.2.1]⟩] ++ flb [] ρ68) := B
        replace B := B.perm List.perm_append_comm
        refine ⟨Cls w2 N65 [⟨g7, 26, #[Sl.v Sl.nil, Sl.v Sl.nil, .int .i64 0]⟩, ⟨g5, 26, #[Sl.v a0_0, Sl.v a0_1, .int .i64 a0_2]⟩, ⟨g69, 26, #[Sl.v y63.1, Sl.v y63.2.1, .int .i64 y63.2.2.1]⟩] [] [(15, g69)], Cls.now hx B, (flk (by simp) (al_cons rfl (.inl rfl) (fun _ g hg => (r_alloc rfl (alloc_run (al26 _) rfl rfl))) al_nil)), (pd_anc (re := [14]) (by kernel_rfl) (re_cons rfl rfl rfl (qy_val rfl (fun w_ ρ_ hb_ => (r_extract (v1 := .tuple #[.agg #[Sl.v y63.1, Sl.v y63.2.1, .int .i64 y63.2.2.1], .int .i64 y63.2.2.2]) rfl rfl rfl))) re_nil)), ?_⟩
        clear hx
        replace B := B.sub (List.sublist_append_right _ _)
        refine ph_nil (fun w ρ N hz hx B hs => ?_)
        replace H := H.step hz
        have hg15 := hx (15, g69) (by simp)
        replace hg15 : ρ 15 = some g69 := hg15
        replace B : Bx w N [⟨g7, 26, #[Sl.v Sl.nil, Sl.v Sl.nil, .int .i64 0]⟩, ⟨g5, 26, #[Sl.v a0_0, Sl.v a0_1, .int .i64 a0_2]⟩, ⟨g69, 26, #[Sl.v y63.1, Sl.v y63.2.1, .int .i64 y63.2.2.1]⟩] := by simpa only [flb, List.filterMap_cons, List.filterMap_nil, hg15, Option.map_some, List.cons_append, List.nil_append] using B
        refine WL_frame (f' := updl _ [(10, .pointer (some ⟨g69, 0, none⟩))]) (wfl_cons hg15 rfl wfl_nil) ?_
        replace B : Bx w N [⟨g69, 26, #[Sl.v y63.1, Sl.v y63.2.1, .int .i64 y63.2.2.1]⟩, ⟨g7, 26, #[Sl.v Sl.nil, Sl.v Sl.nil, .int .i64 0]⟩, ⟨g5, 26, #[Sl.v a0_0, Sl.v a0_1, .int .i64 a0_2]⟩] := (show Bx w N (([⟨g7, 26, #[Sl.v Sl.nil, Sl.v Sl.nil, .int .i64 0]⟩, ⟨g5, 26, #[Sl.v a0_0, Sl.v a0_1, .int .i64 a0_2]⟩] : List Bk) ++ ([⟨g69, 26, #[Sl.v y63.1, Sl.v y63.2.1, .int .i64 y63.2.2.1]⟩] : List Bk)) from B).perm (List.perm_append_comm (l₁ := ([⟨g69, 26, #[Sl.v y63.1, Sl.v y63.2.1, .int .i64 y63.2.2.1]⟩] : List Bk)))
        refine stp (v := .int .i64 y63.2.2.2) rfl rfl (r_assign rfl rfl) ?_
        refine fin ?_
        refine n41 _ _ ?_
        refine c_seq (fun Q72 n70 o71 => ?_)
        refine c_region ?_
        refine stp (v := .pointer (some ⟨g69, 1, none⟩)) rfl rfl (r_fieldAddr (v1 := .pointer (some ⟨g69, 0, none⟩)) rfl rfl (fld26_1 _ _)) ?_
        refine stp (v := Sl.v y63.2.1) rfl rfl (r_load (v1 := .pointer (some ⟨g69, 1, none⟩)) rfl rfl (ld1 Try.underlying24 rfl (bx1 (B.get 0 rfl) rfl rfl))) ?_
        refine stp (v := .int .i64 a1) rfl rfl (r_move rfl rfl) ?_
        refine stp (v := .int .i64 y63.2.2.2) rfl rfl (r_move rfl rfl) ?_
        obtain ⟨p73, p74, he, h0, h1, hpa, H'⟩ := at_idx' H
        replace H := H'; clear H'
        refine stp (v := .pointer (some p74)) rfl rfl (r_indexAddr (v1 := Sl.v y63.2.1) (v2 := .int .i64 a1) rfl rfl rfl (ix' Try.underlying24 sz3 he h0 h1 hpa)) ?_
        clear he h0 h1 hpa
        obtain ⟨hc75, hf76, B', H'⟩ := at_stc B H
        replace B := B'; clear B'
        replace H := H'; clear H'
        refine stp0 rfl rfl (r_store (v1 := .pointer (some p74)) (v2 := .int .i64 y63.2.2.2) rfl rfl rfl (st1 rfl sz3 hc75 hf76)) ?_
        refine fin ?_
        refine n70 _ _ ?_
        refine c_seq (fun Q79 n77 o78 => ?_)
        refine c_seq (fun Q82 n80 o81 => ?_)
        refine c_region ?_
        refine stp (v := .agg #[Sl.v y63.1, Sl.v y63.2.1, .int .i64 y63.2.2.1]) rfl rfl (r_load (v1 := .pointer (some ⟨g69, 0, none⟩)) rfl rfl (bxn (B.get 0 rfl) Try.underlying26 rfl sz26)) ?_
        refine stpc rfl rfl (r_call (vs := [.agg #[Sl.v y63.1, Sl.v y63.2.1, .int .i64 y63.2.2.1]]) rfl rfl (ca9 _ _)) ?_
        refine at_call B H (fun y83 w B H => ?_)
        refine stp (v := .bool (!y83)) rfl rfl (r_not (b := y83) rfl rfl) ?_
        refine fin ?_
        refine n80 _ _ ?_
        refine c_cond (b := !y83) rfl (fun hb84 => ?_) (fun hb84 => ?_)
        · replace H := at_itet hb84 H
          refine c_seq (fun Q87 n85 o86 => ?_)
          refine c_region ?_
          refine stp (v := .agg #[Sl.v Sl.nil, Sl.v Sl.nil, .int .i64 0]) rfl rfl (r_build (qs := []) rfl rfl (site2  _)) ?_
          obtain ⟨w2, hr, B, H⟩ := B.stn H (i := 1) (T := 26) (cs' := #[Sl.v Sl.nil, Sl.v Sl.nil, .int .i64 0]) (ad := ⟨g7, 0, none⟩) rfl rfl rfl rfl sz26
          refine stp0 rfl rfl (r_store (v1 := .pointer (some ⟨g7, 0, none⟩)) (v2 := .agg #[Sl.v Sl.nil, Sl.v Sl.nil, .int .i64 0]) rfl rfl rfl hr) ?_
          replace B : Bx _ _ [⟨g69, 26, #[Sl.v y63.1, Sl.v y63.2.1, .int .i64 y63.2.2.1]⟩, ⟨g7, 26, #[Sl.v Sl.nil, Sl.v Sl.nil, .int .i64 0]⟩, ⟨g5, 26, #[Sl.v a0_0, Sl.v a0_1, .int .i64 a0_2]⟩] := B
          clear hr
          refine stp (v := .bool false) rfl rfl (r_assign rfl rfl) ?_
          refine fin ?_
          refine n85 _ _ ?_
          refine c_ret (o78 _ _ _ nofun ((done (vs := [.agg #[Sl.v Sl.nil, Sl.v Sl.nil, .int .i64 0], .bool false]) (.cell rfl (bxn (B.get 1 rfl) Try.underlying26 rfl sz26) (.tmp rfl .nil)) rfl ⟨_, rfl, H.now⟩)))
        · replace H := at_itef hb84 H
          refine c_skip ?_
          refine n77 _ _ ?_
          refine c_seq (fun Q90 n88 o89 => ?_)
          refine c_region ?_
          refine stp (v := .agg #[Sl.v y63.1, Sl.v y63.2.1, .int .i64 y63.2.2.1]) rfl rfl (r_load (v1 := .pointer (some ⟨g69, 0, none⟩)) rfl rfl (bxn (B.get 0 rfl) Try.underlying26 rfl sz26)) ?_
          obtain ⟨w2, hr, B, H⟩ := B.stn H (i := 1) (T := 26) (cs' := #[Sl.v y63.1, Sl.v y63.2.1, .int .i64 y63.2.2.1]) (ad := ⟨g7, 0, none⟩) rfl rfl rfl rfl sz26
          refine stp0 rfl rfl (r_store (v1 := .pointer (some ⟨g7, 0, none⟩)) (v2 := .agg #[Sl.v y63.1, Sl.v y63.2.1, .int .i64 y63.2.2.1]) rfl rfl rfl hr) ?_
          replace B : Bx _ _ [⟨g69, 26, #[Sl.v y63.1, Sl.v y63.2.1, .int .i64 y63.2.2.1]⟩, ⟨g7, 26, #[Sl.v y63.1, Sl.v y63.2.1, .int .i64 y63.2.2.1]⟩, ⟨g5, 26, #[Sl.v a0_0, Sl.v a0_1, .int .i64 a0_2]⟩] := B
          clear hr
          refine stp (v := .bool true) rfl rfl (r_assign rfl rfl) ?_
          refine fin ?_
          refine n88 _ _ ?_
          refine c_ret ((done (vs := [.agg #[Sl.v y63.1, Sl.v y63.2.1, .int .i64 y63.2.2.1], .bool true]) (.cell rfl (bxn (B.get 1 rfl) Try.underlying26 rfl sz26) (.tmp rfl .nil)) rfl ⟨_, rfl, H.now⟩))
def f8_impl_GoodCow.L4 (R : Value → World → Prop) (g5 : Nat) (g41 : Nat) (g39 : Nat) (g50 : Nat) (next116 : (Int) → Tm) (s3_9 : Int) (x146 : Sl) (s4_71 : Int) (next155 : (Int) → Tm) : Tm :=
  T.ite (decide (s4_71 < (x146.n : Int))) (T.idx x146 s4_71 1 fun (p174 : Addr) => T.ldc p174 (Value.int .i64) fun (x175 : Int) => T.ldc (⟨g39, 0, none⟩ : Addr) Sl.v fun (x180 : Sl) => T.ldc (⟨g50, 0, none⟩ : Addr) Sl.v fun (x182 : Sl) => T.idx x182 s3_9 1 fun (p185 : Addr) => T.ldc p185 (Value.int .i64) fun (x190 : Int) => T.idx x180 x190 1 fun (p193 : Addr) => T.ldc p193 (Value.int .i64) fun (x198 : Int) => T.call Try.prog 32 [.int .i64 x175, .int .i64 (IntKind.i64.wrap (x198 - 1)), .pointer (some (⟨g5, 0, none⟩ : Addr)), .pointer (some (⟨g41, 0, none⟩ : Addr)), .pointer (some (⟨g39, 0, none⟩ : Addr)), .pointer (some (⟨g50, 0, none⟩ : Addr))] Value.bool fun (y200 : Bool) => T.ite (!y200) (T.ret R (.bool false)) (next155 (IntKind.i64.wrap (s4_71 + 1)))) (next116 (IntKind.i64.wrap (s3_9 + 1)))
def f8_impl_GoodCow.J6 (R : Value → World → Prop) (next220 : (Int) → Tm) (s5_91 : Int) (j6_118 : Bool) : Tm :=
  T.ite j6_118 (T.ret R (.bool false)) (next220 (IntKind.i64.wrap (s5_91 + 1)))
def f8_impl_GoodCow.L5 (R : Value → World → Prop) (g41 : Nat) (x211 : Sl) (s5_91 : Int) (next220 : (Int) → Tm) : Tm :=
  T.ite (decide (s5_91 < (x211.n : Int))) (T.idx x211 s5_91 3 fun (p239 : Addr) => T.ldc (p239.add 0) (Value.int .i64) fun (x240_0 : Int) => T.ldc (p239.add 1) Value.string fun (x240_1 : ByteArray) => T.ldc (p239.add 2) Sl.v fun (x240_2 : Sl) => T.ldc (⟨g41, 0, none⟩ : Addr) Sl.v fun (x249 : Sl) => T.idx x249 s5_91 1 fun (p252 : Addr) => T.ldc p252 (Value.int .i64) fun (x253 : Int) => T.ite (x240_0 != x253) (f8_impl_GoodCow.J6 R next220 s5_91 true) (T.ite (x240_0 == 0) (T.ite (!(x240_1.toList == (⟨#[]⟩ : ByteArray).toList)) (f8_impl_GoodCow.J6 R next220 s5_91 true) (f8_impl_GoodCow.J6 R next220 s5_91 (decide (0 < (x240_2.n : Int))))) (f8_impl_GoodCow.J6 R next220 s5_91 false))) (T.ret R (.bool true))
def f8_impl_GoodCow.L3 (R : Value → World → Prop) (g5 : Nat) (g41 : Nat) (g39 : Nat) (g50 : Nat) (s3_9 : Int) (next116 : (Int) → Tm) : Tm :=
  T.ldc (⟨g50, 0, none⟩ : Addr) Sl.v fun (x123 : Sl) => T.ite (decide (s3_9 < (x123.n : Int))) (T.ldc ((⟨g5, 0, none⟩ : Addr).add 0) Sl.v fun (x136 : Sl) => T.ldc (⟨g50, 0, none⟩ : Addr) Sl.v fun (x138 : Sl) => T.idx x138 s3_9 1 fun (p141 : Addr) => T.ldc p141 (Value.int .i64) fun (x142 : Int) => T.idx x136 x142 3 fun (p145 : Addr) => T.ldc (p145.add 2) Sl.v fun (x146 : Sl) => T.loop (fun (s : Int) next => f8_impl_GoodCow.L4 R g5 g41 g39 g50 next116 s3_9 x146 s (fun (z0 : Int) => next z0)) 0) (T.ldc ((⟨g5, 0, none⟩ : Addr).add 0) Sl.v fun (x211 : Sl) => T.loop (fun (s : Int) next => f8_impl_GoodCow.L5 R g41 x211 s (fun (z0 : Int) => next z0)) 0)
def f8_impl_GoodCow.L2 (R : Value → World → Prop) (g5 : Nat) (g41 : Nat) (g39 : Nat) (g50 : Nat) (x62 : Sl) (s2_44 : Int) (next71 : (Int) → Tm) : Tm :=
  T.ite (decide (s2_44 < (x62.n : Int))) (T.idx x62 s2_44 1 fun (p90 : Addr) => T.ldc p90 (Value.int .i64) fun (x91 : Int) => T.ldc ((⟨g5, 0, none⟩ : Addr).add 2) (Value.int .i64) fun (x96 : Int) => T.call Try.prog 32 [.int .i64 x91, .int .i64 x96, .pointer (some (⟨g5, 0, none⟩ : Addr)), .pointer (some (⟨g41, 0, none⟩ : Addr)), .pointer (some (⟨g39, 0, none⟩ : Addr)), .pointer (some (⟨g50, 0, none⟩ : Addr))] Value.bool fun (y98 : Bool) => T.ite (!y98) (T.ret R (.bool false)) (next71 (IntKind.i64.wrap (s2_44 + 1)))) (T.loop (fun (s : Int) next => f8_impl_GoodCow.L3 R g5 g41 g39 g50 s (fun (z0 : Int) => next z0)) 0)
def f8_impl_GoodCow.J1 (R : Value → World → Prop) (g5 : Nat) (j1_30 : Bool) : Tm :=
  T.ite j1_30 (T.ret R (.bool false)) (T.ldc ((⟨g5, 0, none⟩ : Addr).add 0) Sl.v fun (x29 : Sl) => T.ldc ((⟨g5, 0, none⟩ : Addr).add 0) Sl.v fun (x31 : Sl) => T.ass (0 ≤ (x29.n : Int) ∧ 8 * (x29.n : Int) ≤ 281474976710656) (T.ass (0 ≤ (x31.n : Int) ∧ 8 * (x31.n : Int) ≤ 281474976710656) (T.new (.cells (madeCells (Value.cells (.int .i64 0)) ((x29.n : Int).toNat * 1)) 3) fun (g38 : Nat) => T.chk ((⟨g5, 0, none⟩ : Addr).add 0) Sl.v x31 (T.new (.cells (madeCells (Value.cells (.int .i64 0)) ((x31.n : Int).toNat * 1)) 3) fun (g40 : Nat) => T.new (.cells #[Sl.v Sl.nil] 24) fun (g41 : Nat) => T.new (.cells #[Sl.v (⟨some ⟨g38, 0, none⟩, (x29.n : Int).toNat, (x29.n : Int).toNat⟩ : Sl)] 24) fun (g39 : Nat) => T.stc (⟨g41, 0, none⟩ : Addr) (Sl.v (⟨some ⟨g40, 0, none⟩, (x31.n : Int).toNat, (x31.n : Int).toNat⟩ : Sl)) (T.new (.cells #[] 3) fun (g48 : Nat) => T.new (.cells #[Sl.v Sl.nil] 24) fun (g50 : Nat) => T.stc (⟨g50, 0, none⟩ : Addr) (Sl.v (⟨some ⟨g48, 0, none⟩, 0, 0⟩ : Sl)) (T.ldc ((⟨g5, 0, none⟩ : Addr).add 1) Sl.v fun (x62 : Sl) => T.loop (fun (s : Int) next => f8_impl_GoodCow.L2 R g5 g41 g39 g50 x62 s (fun (z0 : Int) => next z0)) 0))))))
def f8_impl_GoodCow.T (R : Value → World → Prop) (a0_0 : Sl) (a0_1 : Sl) (a0_2 : Int) : Tm :=
  T.new (.cells #[Sl.v a0_0, Sl.v a0_1, .int .i64 a0_2] 26) fun (g5 : Nat) => T.ldc ((⟨g5, 0, none⟩ : Addr).add 2) (Value.int .i64) fun (x12 : Int) => T.call Try.prog 22 [.int .i64 x12, .int .i64 1, .int .i64 3] Value.bool fun (y14 : Bool) => T.ite (!y14) (f8_impl_GoodCow.J1 R g5 true) (T.ldc ((⟨g5, 0, none⟩ : Addr).add 0) Sl.v fun (x16 : Sl) => T.ite (decide (80 < (x16.n : Int))) (f8_impl_GoodCow.J1 R g5 true) (T.ldc ((⟨g5, 0, none⟩ : Addr).add 1) Sl.v fun (x19 : Sl) => T.call Try.prog 22 [.int .i64 (x19.n : Int), .int .i64 1, .int .i64 8] Value.bool fun (y21 : Bool) => f8_impl_GoodCow.J1 R g5 (!y21)))
set_option maxHeartbeats 4000000 in
set_option maxRecDepth 100000 in
theorem f8_impl_GoodCow.ok (R : Value → World → Prop) (a0_0 : Sl) (a0_1 : Sl) (a0_2 : Int) (w : World) (h : Aft w (fun _ => False) (f8_impl_GoodCow.T R a0_0 a0_1 a0_2)) :
    Calls Try.prog 8 (List.toArray [.agg #[Sl.v a0_0, Sl.v a0_1, .int .i64 a0_2]]) w fun e w' => ∃ v, e = .returned v ∧ R v w' := by
  refine enter 120 Try.func8 rfl rfl rfl ?_
  have B := Bx.nil w
  have H := h
  clear h
  refine c_seq (fun Q3 n1 o2 => ?_)
  refine c_region ?_
  obtain ⟨w4, g5, hw, hg, B, H⟩ := at_new' B H
  refine stp (v := .pointer (some ⟨g5, 0, none⟩)) (w' := w4) rfl rfl (r_box (v1 := .agg #[Sl.v a0_0, Sl.v a0_1, .int .i64 a0_2]) rfl rfl (box_run rfl hw hg)) ?_
  clear hw hg
  refine stp (v := .bool false) rfl rfl (r_assign rfl rfl) ?_
  refine fin ?_
  refine n1 _ _ ?_
  refine c_seq (fun Q8 n6 o7 => ?_)
  refine c_seqj (fun a w => ∃ (j1_30 : Bool) (g : Nat → Value) (N : NP), a = A 120 (updl g [(1, .pointer (some (⟨g5, 0, none⟩ : Addr))), (30, .bool j1_30)]) ∧ Bx w N [] ∧ Aft w N (f8_impl_GoodCow.J1 R g5 j1_30)) (fun Q11 n9 o10 => ?_) ?_
  ·
    refine c_region ?_
    refine stp (v := .pointer (some ((⟨g5, 0, none⟩ : Addr).add 2))) rfl rfl (r_fieldAddr (v1 := .pointer (some (⟨g5, 0, none⟩ : Addr))) rfl rfl (fld26_2 _ _)) ?_
    obtain ⟨x12, hx13, H'⟩ := at_ldc H
    replace H := H'; clear H'
    refine stp (v := .int .i64 x12) rfl rfl (r_load (v1 := .pointer (some ((⟨g5, 0, none⟩ : Addr).add 2))) rfl rfl (ld1 Try.underlying3 rfl (hx13 _ (Below.refl _ _)))) ?_
    refine stpc rfl rfl (r_call (vs := [.int .i64 x12, .int .i64 1, .int .i64 3]) rfl rfl (ca22 _ _)) ?_
    refine at_call B H (fun y14 w B H => ?_)
    refine stp (v := .bool (!y14)) rfl rfl (r_not (b := y14) rfl rfl) ?_
    refine stp (v := .bool (!y14)) rfl rfl (r_move rfl rfl) ?_
    rcases Bool.eq_false_or_eq_true (!y14) with hb15 | hb15
    · replace H := at_itet hb15 H
      refine skp (un rfl rfl rfl rfl (congrArg Value.bool hb15) nofun) rfl ?_
      refine skp (un rfl rfl rfl rfl (congrArg Value.bool hb15) nofun) rfl ?_
      refine skp (un rfl rfl rfl rfl (congrArg Value.bool hb15) nofun) rfl ?_
      refine skp (un rfl rfl rfl rfl (congrArg Value.bool hb15) nofun) rfl ?_
      refine stp (v := .bool true) rfl rfl (r_pickt rfl (congrArg Value.bool hb15) rfl) ?_
      refine stp (v := .bool true) rfl rfl (r_move rfl rfl) ?_
      refine skp (un rfl rfl rfl rfl rfl nofun) rfl ?_
      refine skp (un rfl rfl rfl rfl rfl nofun) rfl ?_
      refine skp (un rfl rfl rfl rfl rfl nofun) rfl ?_
      refine skp (un rfl rfl rfl rfl rfl nofun) rfl ?_
      refine skp (un rfl rfl rfl rfl rfl nofun) rfl ?_
      refine stp (v := .bool true) rfl rfl (r_pickt rfl rfl rfl) ?_
      refine fin ?_
      exact n9 _ _ ⟨true, _, _, fr_self rfl, B, H⟩
    · replace H := at_itef hb15 H
      refine stp (v := .pointer (some ((⟨g5, 0, none⟩ : Addr).add 0))) (wn rfl rfl rfl rfl (congrArg Value.bool hb15)) rfl (r_fieldAddr (v1 := .pointer (some (⟨g5, 0, none⟩ : Addr))) rfl rfl (fld26_0 _ _)) ?_
      obtain ⟨x16, hx17, H'⟩ := at_ldc H
      replace H := H'; clear H'
      refine stp (v := Sl.v x16) (wn rfl rfl rfl rfl (congrArg Value.bool hb15)) rfl (r_load (v1 := .pointer (some ((⟨g5, 0, none⟩ : Addr).add 0))) rfl rfl (ld1 Try.underlying23 rfl (hx17 _ (Below.refl _ _)))) ?_
      refine stp (v := .int .i64 (x16.n : Int)) (wn rfl rfl rfl rfl (congrArg Value.bool hb15)) rfl (r_builtin (vs := [Sl.v x16]) rfl rfl (fun _ => lenl Try.underlying23)) ?_
      refine stp (v := .bool (decide (80 < (x16.n : Int)))) (wn rfl rfl rfl rfl (congrArg Value.bool hb15)) rfl (r_gtr (a := (x16.n : Int)) (b := 80) rfl rfl rfl) ?_
      refine stp (v := .bool (decide (80 < (x16.n : Int)))) rfl rfl (r_pickf rfl (congrArg Value.bool hb15) rfl) ?_
      refine stp (v := .bool (decide (80 < (x16.n : Int)))) rfl rfl (r_move rfl rfl) ?_
      rcases Bool.eq_false_or_eq_true (decide (80 < (x16.n : Int))) with hb18 | hb18
      · replace H := at_itet hb18 H
        refine skp (un rfl rfl rfl rfl (congrArg Value.bool hb18) nofun) rfl ?_
        refine skp (un rfl rfl rfl rfl (congrArg Value.bool hb18) nofun) rfl ?_
        refine skp (un rfl rfl rfl rfl (congrArg Value.bool hb18) nofun) rfl ?_
        refine skp (un rfl rfl rfl rfl (congrArg Value.bool hb18) nofun) rfl ?_
        refine skp (un rfl rfl rfl rfl (congrArg Value.bool hb18) nofun) rfl ?_
        refine stp (v := .bool true) rfl rfl (r_pickt rfl (congrArg Value.bool hb18) rfl) ?_
        refine fin ?_
        exact n9 _ _ ⟨true, _, _, fr_self rfl, B, H⟩
      · replace H := at_itef hb18 H
        refine stp (v := .pointer (some ((⟨g5, 0, none⟩ : Addr).add 1))) (wn rfl rfl rfl rfl (congrArg Value.bool hb18)) rfl (r_fieldAddr (v1 := .pointer (some (⟨g5, 0, none⟩ : Addr))) rfl rfl (fld26_1 _ _)) ?_
        obtain ⟨x19, hx20, H'⟩ := at_ldc H
        replace H := H'; clear H'
        refine stp (v := Sl.v x19) (wn rfl rfl rfl rfl (congrArg Value.bool hb18)) rfl (r_load (v1 := .pointer (some ((⟨g5, 0, none⟩ : Addr).add 1))) rfl rfl (ld1 Try.underlying24 rfl (hx20 _ (Below.refl _ _)))) ?_
        refine stp (v := .int .i64 (x19.n : Int)) (wn rfl rfl rfl rfl (congrArg Value.bool hb18)) rfl (r_builtin (vs := [Sl.v x19]) rfl rfl (fun _ => lenl Try.underlying24)) ?_
        refine stpc (wn rfl rfl rfl rfl (congrArg Value.bool hb18)) rfl (r_call (vs := [.int .i64 (x19.n : Int), .int .i64 1, .int .i64 8]) rfl rfl (ca22 _ _)) ?_
        refine at_call B H (fun y21 w B H => ?_)
        refine stp (v := .bool (!y21)) (wn rfl rfl rfl rfl (congrArg Value.bool hb18)) rfl (r_not (b := y21) rfl rfl) ?_
        refine stp (v := .bool (!y21)) rfl rfl (r_pickf rfl (congrArg Value.bool hb18) rfl) ?_
        refine fin ?_
        exact n9 _ _ ⟨!y21, _, _, fr_self rfl, B, H⟩
  ·
    rintro _ w ⟨j1_30, g, N, rfl, B, H⟩
    refine c_cond (b := j1_30) rfl (fun hb22 => ?_) (fun hb22 => ?_)
    · replace H := at_itet hb22 H
      refine c_seq (fun Q25 n23 o24 => ?_)
      refine c_region ?_
      refine stp (v := .bool false) rfl rfl (r_assign rfl rfl) ?_
      refine fin ?_
      refine n23 _ _ ?_
      refine c_ret (o7 _ _ _ nofun ((done (vs := [.bool false]) (.tmp rfl .nil) rfl ⟨_, rfl, H.now⟩)))
    · replace H := at_itef hb22 H
      refine c_skip ?_
      refine n6 _ _ ?_
      refine c_seq (fun Q28 n26 o27 => ?_)
      obtain ⟨x29, hx30, H'⟩ := at_ldcz H
      replace H := H'; clear H'
      obtain ⟨x31, hx32, H'⟩ := at_ldcz H
      replace H := H'; clear H'
      obtain ⟨hm0, H'⟩ := at_ass H
      replace H := H'; clear H'
      obtain ⟨hm1, H'⟩ := at_ass H
      replace H := H'; clear H'
      refine c_open 11 (kap [10] [3, 7, 8, 9]) (fun i b => bif Nat.beq i 3 then .slice (some ⟨b, 0, none⟩) (x29.n : Int).toNat (x29.n : Int).toNat else bif Nat.beq i 7 then .slice (some ⟨b, 0, none⟩) (x31.n : Int).toNat (x31.n : Int).toNat else .pointer (some ⟨b, 0, none⟩)) (hvf [(3, 33, .int .i64 (x29.n : Int)), (7, 37, .int .i64 (x31.n : Int))]) (fun i => bif Nat.beq i 10 then [(3, 34), (8, 3)] else []) [0, 1, 2, 4, 5, 6, 10] [(3, 34), (7, 38), (8, 3), (9, 4)] [(3, 3, (madeCells (Value.cells (.int .i64 0)) ((x29.n : Int).toNat * 1))), (8, 24, #[Sl.v Sl.nil]), (7, 3, (madeCells (Value.cells (.int .i64 0)) ((x31.n : Int).toNat * 1))), (9, 24, #[Sl.v Sl.nil])] _ rfl (chk_hv (hs := [(3, 33), (7, 37)]) rfl (by kernel_rfl)) (by kernel_rfl) rfl B (flk (by simp) (al_cons rfl (.inr rfl) (fun _ g hg => (r_makeSlice (v1 := .int .i64 (x29.n : Int)) (v2 := .int .i64 (x29.n : Int)) rfl (hg (33, _) (by simp [hvf])) (hg (33, _) (by simp [hvf])) (mk_run Try.underlying24 inf3 hm0))) (al_cons rfl (.inr rfl) (fun _ g hg => (r_makeSlice (v1 := .int .i64 (x31.n : Int)) (v2 := .int .i64 (x31.n : Int)) rfl (hg (37, _) (by simp [hvf])) (hg (37, _) (by simp [hvf])) (mk_run Try.underlying24 inf3 hm1))) (al_cons rfl (.inr rfl) (fun _ g hg => (r_alloc rfl (alloc_run (al24 _) rfl rfl))) (al_cons rfl (.inr rfl) (fun _ g hg => (r_alloc rfl (alloc_run (al24 _) rfl rfl))) al_nil))))) ?_
      refine ph_q (v := .pointer (some ((⟨g5, 0, none⟩ : Addr).add 0))) rfl rfl rfl (hv_ok rfl rfl) (qy_val rfl (fun w_ ρ_ hb_ => (r_fieldAddr (v1 := .pointer (some (⟨g5, 0, none⟩ : Addr))) rfl rfl (fld26_0 _ _)))) ?_
      refine ph_q (v := Sl.v x29) rfl rfl rfl (hv_ok rfl rfl) (qy_val rfl (fun w_ ρ_ hb_ => (r_load (v1 := .pointer (some ((⟨g5, 0, none⟩ : Addr).add 0))) rfl rfl (ld1 Try.underlying23 rfl (Cls.ld hx30 hb_))))) ?_
      refine ph_q (v := .int .i64 (x29.n : Int)) rfl rfl rfl (hv_of (d := 33) (by intro q hq hd; simp only [List.mem_cons, List.not_mem_nil, or_false] at hq; rcases hq with rfl | rfl <;> first | rfl | (simp at hd))) (qy_val rfl (fun w_ ρ_ hb_ => (r_builtin (vs := [Sl.v x29]) rfl rfl (fun _ => lenl Try.underlying23)))) ?_
      refine ph_q (v := .pointer (some ((⟨g5, 0, none⟩ : Addr).add 0))) rfl rfl rfl (hv_ok rfl rfl) (qy_val rfl (fun w_ ρ_ hb_ => (r_fieldAddr (v1 := .pointer (some (⟨g5, 0, none⟩ : Addr))) rfl rfl (fld26_0 _ _)))) ?_
      refine ph_q (v := Sl.v x31) rfl rfl rfl (hv_ok rfl rfl) (qy_val rfl (fun w_ ρ_ hb_ => (r_load (v1 := .pointer (some ((⟨g5, 0, none⟩ : Addr).add 0))) rfl rfl (ld1 Try.underlying23 rfl (Cls.ld hx32 hb_))))) ?_
      refine ph_q (v := .int .i64 (x31.n : Int)) rfl rfl rfl (hv_of (d := 37) (by intro q hq hd; simp only [List.mem_cons, List.not_mem_nil, or_false] at hq; rcases hq with rfl | rfl <;> first | rfl | (simp at hd))) (qy_val rfl (fun w_ ρ_ hb_ => (r_builtin (vs := [Sl.v x31]) rfl rfl (fun _ => lenl Try.underlying23)))) ?_
      refine ph_e rfl rfl (fun w33 ρ37 hc hs => ?_)
      obtain ⟨hx, N34, hz35, B36⟩ := hc
      replace H := H.step hz35
      clear hz35
      obtain ⟨g38, hg3⟩ := Option.isSome_iff_exists.1 (hs (3, 34) (by simp))
      obtain ⟨g39, hg8⟩ := Option.isSome_iff_exists.1 (hs (8, 3) (by simp))
      obtain ⟨N34, B36, H⟩ := at_pub (g := g38) (T := 3) (cs := (madeCells (Value.cells (.int .i64 0)) ((x29.n : Int).toNat * 1))) (bs := flb [(8, 24, #[Sl.v Sl.nil]), (7, 3, (madeCells (Value.cells (.int .i64 0)) ((x31.n : Int).toNat * 1))), (9, 24, #[Sl.v Sl.nil])] ρ37 ++ []) (by simpa only [flb, List.filterMap_cons, hg3, Option.map_some, List.cons_append] using B36) H
      replace hx := hx_cons hg3 hx
      replace B36 : Bx w33 N34 (flb [(7, 3, (madeCells (Value.cells (.int .i64 0)) ((x31.n : Int).toNat * 1))), (9, 24, #[Sl.v Sl.nil])] ρ37 ++ [⟨g39, 24, #[Sl.v Sl.nil]⟩]) := (show Bx w33 N34 (⟨g39, 24, #[Sl.v Sl.nil]⟩ :: (flb [(7, 3, (madeCells (Value.cells (.int .i64 0)) ((x31.n : Int).toNat * 1))), (9, 24, #[Sl.v Sl.nil])] ρ37 ++ [])) by simpa only [flb, List.filterMap_cons, hg8, Option.map_some, List.cons_append] using B36).perm (by rw [show ([⟨g39, 24, #[Sl.v Sl.nil]⟩] : List Bk) = ([] : List Bk) ++ ([⟨g39, 24, #[Sl.v Sl.nil]⟩] : List Bk) from rfl, ← List.append_assoc]; exact (List.perm_append_singleton _ _))
      replace hx := hx_cons hg8 hx
      refine EF_frame (f' := updl _ [(34, .slice (some ⟨g38, 0, none⟩) (x29.n : Int).toNat (x29.n : Int).toNat), (3, .pointer (some ⟨g39, 0, none⟩))]) (wfl_cons hg3 rfl (wfl_cons hg8 rfl wfl_nil)) ?_
      replace B36 : Bx _ _ ([⟨g39, 24, #[Sl.v Sl.nil]⟩] ++ flb [(7, 3, (madeCells (Value.cells (.int .i64 0)) ((x31.n : Int).toNat * 1))), (9, 24, #[Sl.v Sl.nil])] ρ37) := B36.perm List.perm_append_comm
      obtain ⟨w2, hr, B, H⟩ := B36.st1 H (i := 0) (j := 0) (T := 24) (v := Sl.v (⟨some ⟨g38, 0, none⟩, (x29.n : Int).toNat, (x29.n : Int).toNat⟩ : Sl)) (ad := ⟨g39, 0, none⟩) rfl rfl rfl rfl sz24
      refine ef_skp (w' := w2) rfl (r_store (v1 := .pointer (some ⟨g39, 0, none⟩)) (v2 := Sl.v (⟨some ⟨g38, 0, none⟩, (x29.n : Int).toNat, (x29.n : Int).toNat⟩ : Sl)) rfl rfl rfl hr) ?_
      clear hr
      replace B : Bx _ _ ([⟨g39, 24, #[Sl.v (⟨some ⟨g38, 0, none⟩, (x29.n : Int).toNat, (x29.n : Int).toNat⟩ : Sl)]⟩] ++ flb [(7, 3, (madeCells (Value.cells (.int .i64 0)) ((x31.n : Int).toNat * 1))), (9, 24, #[Sl.v Sl.nil])] ρ37) := B
      replace B := B.perm List.perm_append_comm
      replace H := at_chk H; obtain ⟨hx32, H'⟩ := H; replace H := H'; clear H'
      refine ⟨Cls w2 N34 [⟨g39, 24, #[Sl.v (⟨some ⟨g38, 0, none⟩, (x29.n : Int).toNat, (x29.n : Int).toNat⟩ : Sl)]⟩] [(7, 3, (madeCells (Value.cells (.int .i64 0)) ((x31.n : Int).toNat * 1))), (9, 24, #[Sl.v Sl.nil])] [(8, g39), (3, g38)], Cls.now hx B, (flk (by simp) (al_cons rfl (.inl rfl) (fun _ g hg => (r_makeSlice (v1 := .int .i64 (x29.n : Int)) (v2 := .int .i64 (x29.n : Int)) rfl (hg (33, _) (by simp [hvf])) (hg (33, _) (by simp [hvf])) (mk_run Try.underlying24 inf3 hm0))) (al_cons rfl (.inr rfl) (fun _ g hg => (r_makeSlice (v1 := .int .i64 (x31.n : Int)) (v2 := .int .i64 (x31.n : Int)) rfl (hg (37, _) (by simp [hvf])) (hg (37, _) (by simp [hvf])) (mk_run Try.underlying24 inf3 hm1))) (al_cons rfl (.inl rfl) (fun _ g hg => (r_alloc rfl (alloc_run (al24 _) rfl rfl))) (al_cons rfl (.inr rfl) (fun _ g hg => (r_alloc rfl (alloc_run (al24 _) rfl rfl))) al_nil))))), (pd_anc (re := [6, 5, 4]) (by kernel_rfl) (re_cons rfl rfl rfl (qy_val rfl (fun w_ ρ_ hb_ => (r_builtin (vs := [Sl.v x31]) rfl rfl (fun _ => lenl Try.underlying23)))) (re_cons rfl rfl rfl (qy_val rfl (fun w_ ρ_ hb_ => (r_load (v1 := .pointer (some ((⟨g5, 0, none⟩ : Addr).add 0))) rfl rfl (ld1 Try.underlying23 rfl (Cls.ld hx32 hb_))))) (re_cons rfl rfl rfl (qy_val rfl (fun w_ ρ_ hb_ => (r_fieldAddr (v1 := .pointer (some (⟨g5, 0, none⟩ : Addr))) rfl rfl (fld26_0 _ _)))) re_nil)))), ?_⟩
      clear hx
      replace B := B.sub (List.sublist_append_right _ _)
      refine ph_nil (fun w ρ N hz hx B hs => ?_)
      replace H := H.step hz
      have hg3 := hx (3, g38) (by simp)
      replace hg3 : ρ 3 = some g38 := hg3
      obtain ⟨g40, hg7⟩ := Option.isSome_iff_exists.1 (hs (7, 38) (by simp))
      have hg8 := hx (8, g39) (by simp)
      replace hg8 : ρ 8 = some g39 := hg8
      obtain ⟨g41, hg9⟩ := Option.isSome_iff_exists.1 (hs (9, 4) (by simp))
      replace B : Bx w N [⟨g40, 3, (madeCells (Value.cells (.int .i64 0)) ((x31.n : Int).toNat * 1))⟩, ⟨g41, 24, #[Sl.v Sl.nil]⟩, ⟨g39, 24, #[Sl.v (⟨some ⟨g38, 0, none⟩, (x29.n : Int).toNat, (x29.n : Int).toNat⟩ : Sl)]⟩] := by simpa only [flb, List.filterMap_cons, List.filterMap_nil, hg3, hg7, hg8, hg9, Option.map_some, List.cons_append, List.nil_append] using B
      refine WL_frame (f' := updl _ [(34, .slice (some ⟨g38, 0, none⟩) (x29.n : Int).toNat (x29.n : Int).toNat), (38, .slice (some ⟨g40, 0, none⟩) (x31.n : Int).toNat (x31.n : Int).toNat), (3, .pointer (some ⟨g39, 0, none⟩)), (4, .pointer (some ⟨g41, 0, none⟩))]) (wfl_cons hg3 rfl (wfl_cons hg7 rfl (wfl_cons hg8 rfl (wfl_cons hg9 rfl wfl_nil)))) ?_
      obtain ⟨N, B, H⟩ := at_pub B H
      obtain ⟨N, B, H⟩ := at_pub B H
      replace B : Bx w N [⟨g39, 24, #[Sl.v (⟨some ⟨g38, 0, none⟩, (x29.n : Int).toNat, (x29.n : Int).toNat⟩ : Sl)]⟩] := (show Bx w N (([] : List Bk) ++ ([⟨g39, 24, #[Sl.v (⟨some ⟨g38, 0, none⟩, (x29.n : Int).toNat, (x29.n : Int).toNat⟩ : Sl)]⟩] : List Bk)) from B).perm (List.perm_append_comm (l₁ := ([⟨g39, 24, #[Sl.v (⟨some ⟨g38, 0, none⟩, (x29.n : Int).toNat, (x29.n : Int).toNat⟩ : Sl)]⟩] : List Bk)))
      obtain ⟨N, B, H⟩ := at_pub B H
      obtain ⟨hc42, hf43, B', H'⟩ := at_stc B H
      replace B := B'; clear B'
      replace H := H'; clear H'
      refine stp0 rfl rfl (r_store (v1 := .pointer (some (⟨g41, 0, none⟩ : Addr))) (v2 := Sl.v (⟨some ⟨g40, 0, none⟩, (x31.n : Int).toNat, (x31.n : Int).toNat⟩ : Sl)) rfl rfl rfl (st1 rfl sz24 hc42 hf43)) ?_
      refine fin ?_
      refine n26 _ _ ?_
      refine c_seq (fun Q46 n44 o45 => ?_)
      refine c_region ?_
      obtain ⟨w47, g48, hw, hg, B, H⟩ := at_new' B H
      refine stp (v := Sl.v (⟨some ⟨g48, 0, none⟩, 0, 0⟩ : Sl)) (w' := w47) rfl rfl (r_buildSlice (qs := []) rfl rfl (bs_run (site3  _) hw hg)) ?_
      clear hw hg
      obtain ⟨w49, g50, hw, hg, B, H⟩ := at_new' B H
      refine stp (v := .pointer (some ⟨g50, 0, none⟩)) (w' := w49) rfl rfl (r_alloc rfl (alloc_run (al24 _) hw hg)) ?_
      clear hw hg
      obtain ⟨hc51, hf52, B', H'⟩ := at_stc B H
      replace B := B'; clear B'
      replace H := H'; clear H'
      refine stp0 rfl rfl (r_store (v1 := .pointer (some (⟨g50, 0, none⟩ : Addr))) (v2 := Sl.v (⟨some ⟨g48, 0, none⟩, 0, 0⟩ : Sl)) rfl rfl rfl (st1 rfl sz24 hc51 hf52)) ?_
      refine fin ?_
      refine n44 _ _ ?_
      refine c_seq (fun Q55 n53 o54 => ?_)
      refine c_region ?_
      refine stp (v := .func (.func 32) #[] #[.pointer (some (⟨g5, 0, none⟩ : Addr)), .pointer (some (⟨g41, 0, none⟩ : Addr)), .pointer (some (⟨g39, 0, none⟩ : Addr)), .pointer (some (⟨g50, 0, none⟩ : Addr))]) rfl rfl (r_makeFunc rfl rfl rfl) ?_
      refine stp (v := .func (.func 32) #[] #[.pointer (some (⟨g5, 0, none⟩ : Addr)), .pointer (some (⟨g41, 0, none⟩ : Addr)), .pointer (some (⟨g39, 0, none⟩ : Addr)), .pointer (some (⟨g50, 0, none⟩ : Addr))]) rfl rfl (r_assign rfl rfl) ?_
      refine fin ?_
      refine n53 _ _ ?_
      refine c_seq (fun Q58 n56 o57 => ?_)
      refine c_seq (fun Q61 n59 o60 => ?_)
      refine c_region ?_
      refine stp (v := .pointer (some ((⟨g5, 0, none⟩ : Addr).add 1))) rfl rfl (r_fieldAddr (v1 := .pointer (some (⟨g5, 0, none⟩ : Addr))) rfl rfl (fld26_1 _ _)) ?_
      obtain ⟨x62, hx63, H'⟩ := at_ldc H
      replace H := H'; clear H'
      refine stp (v := Sl.v x62) rfl rfl (r_load (v1 := .pointer (some ((⟨g5, 0, none⟩ : Addr).add 1))) rfl rfl (ld1 Try.underlying24 rfl (hx63 _ (Below.refl _ _)))) ?_
      refine stp (v := .int .i64 (x62.n : Int)) rfl rfl (r_builtin (vs := [Sl.v x62]) rfl rfl (fun _ => lenl Try.underlying24)) ?_
      refine stp (v := .int .i64 0) rfl rfl (r_move rfl rfl) ?_
      refine fin ?_
      refine n59 _ _ ?_
      refine c_block (fun Q67 n64 x66 o65 => ?_)
      refine c_loop (σ := Int) (s0 := 0) (fun s => [(1, .pointer (some (⟨g5, 0, none⟩ : Addr))), (3, .pointer (some (⟨g39, 0, none⟩ : Addr))), (4, .pointer (some (⟨g41, 0, none⟩ : Addr))), (5, .pointer (some (⟨g50, 0, none⟩ : Addr))), (6, .func (.func 32) #[] #[.pointer (some (⟨g5, 0, none⟩ : Addr)), .pointer (some (⟨g41, 0, none⟩ : Addr)), .pointer (some (⟨g39, 0, none⟩ : Addr)), .pointer (some (⟨g50, 0, none⟩ : Addr))]), (42, Sl.v x62), (43, .int .i64 (x62.n : Int)), (44, .int .i64 s)]) (fun s => []) B H rfl ?_
      rintro Q70 next71 s2_44 g w N nx68 o69 B H
      refine c_seq (fun Q74 n72 o73 => ?_)
      refine c_region ?_
      refine stp (v := .bool (decide (s2_44 < (x62.n : Int)))) rfl rfl (r_lss (a := s2_44) (b := (x62.n : Int)) rfl rfl rfl) ?_
      refine fin ?_
      refine n72 _ _ ?_
      refine c_seq (fun Q77 n75 o76 => ?_)
      refine c_cond (b := decide (s2_44 < (x62.n : Int))) rfl (fun hb78 => ?_) (fun hb78 => ?_)
      · replace H := at_itet hb78 H
        refine c_skip ?_
        refine n75 _ _ ?_
        refine c_seq (fun Q81 n79 o80 => ?_)
        refine c_block (fun Q85 n82 x84 o83 => ?_)
        refine c_seq (fun Q88 n86 o87 => ?_)
        refine c_region ?_
        obtain ⟨p89, p90, he, h0, h1, hpa, H'⟩ := at_idx' H
        replace H := H'; clear H'
        refine stp (v := .pointer (some p90)) rfl rfl (r_indexAddr (v1 := Sl.v x62) (v2 := .int .i64 s2_44) rfl rfl rfl (ix' Try.underlying24 sz3 he h0 h1 hpa)) ?_
        clear he h0 h1 hpa
        obtain ⟨x91, hx92, H'⟩ := at_ldc H
        replace H := H'; clear H'
        refine stp (v := .int .i64 x91) rfl rfl (r_load (v1 := .pointer (some p90)) rfl rfl (ld1 Try.underlying3 rfl (hx92 _ (Below.refl _ _)))) ?_
        refine stp (v := .int .i64 x91) rfl rfl (r_assign rfl rfl) ?_
        refine fin ?_
        refine n86 _ _ ?_
        refine c_seq (fun Q95 n93 o94 => ?_)
        refine c_region ?_
        refine stp (v := .func (.func 32) #[] #[.pointer (some (⟨g5, 0, none⟩ : Addr)), .pointer (some (⟨g41, 0, none⟩ : Addr)), .pointer (some (⟨g39, 0, none⟩ : Addr)), .pointer (some (⟨g50, 0, none⟩ : Addr))]) rfl rfl (r_move rfl rfl) ?_
        refine stp (v := .int .i64 x91) rfl rfl (r_move rfl rfl) ?_
        refine stp (v := .pointer (some ((⟨g5, 0, none⟩ : Addr).add 2))) rfl rfl (r_fieldAddr (v1 := .pointer (some (⟨g5, 0, none⟩ : Addr))) rfl rfl (fld26_2 _ _)) ?_
        obtain ⟨x96, hx97, H'⟩ := at_ldc H
        replace H := H'; clear H'
        refine stp (v := .int .i64 x96) rfl rfl (r_load (v1 := .pointer (some ((⟨g5, 0, none⟩ : Addr).add 2))) rfl rfl (ld1 Try.underlying3 rfl (hx97 _ (Below.refl _ _)))) ?_
        refine stpc rfl rfl (r_callv (x := .tmp 48) (vs := [.int .i64 x91, .int .i64 x96]) (cs := #[.pointer (some (⟨g5, 0, none⟩ : Addr)), .pointer (some (⟨g41, 0, none⟩ : Addr)), .pointer (some (⟨g39, 0, none⟩ : Addr)), .pointer (some (⟨g50, 0, none⟩ : Addr))]) (us := #[.int .i64 x91, .int .i64 x96, .pointer (some (⟨g5, 0, none⟩ : Addr)), .pointer (some (⟨g41, 0, none⟩ : Addr)), .pointer (some (⟨g39, 0, none⟩ : Addr)), .pointer (some (⟨g50, 0, none⟩ : Addr))]) rfl rfl rfl (by simp) (ca32 _ _)) ?_
        refine at_call B H (fun y98 w B H => ?_)
        refine stp (v := .bool (!y98)) rfl rfl (r_not (b := y98) rfl rfl) ?_
        refine fin ?_
        refine n93 _ _ ?_
        refine c_cond (b := !y98) rfl (fun hb99 => ?_) (fun hb99 => ?_)
        · replace H := at_itet hb99 H
          refine c_seq (fun Q102 n100 o101 => ?_)
          refine c_region ?_
          refine stp (v := .bool false) rfl rfl (r_assign rfl rfl) ?_
          refine fin ?_
          refine n100 _ _ ?_
          refine c_ret (o83 _ _ _ nofun (by simp) (o80 _ _ _ nofun (o69 _ _ _ nofun (o65 _ _ _ nofun (by simp) (o57 _ _ _ nofun ((done (vs := [.bool false]) (.tmp rfl .nil) rfl ⟨_, rfl, H.now⟩)))))))
        · replace H := at_itef hb99 H
          refine c_skip ?_
          refine n82 _ _ ?_
          refine n79 _ _ ?_
          refine c_region ?_
          refine stp (v := .int .i64 (IntKind.i64.wrap (s2_44 + 1))) rfl rfl (r_add (a := s2_44) (b := 1) rfl rfl rfl) ?_
          refine stp (v := .int .i64 (IntKind.i64.wrap (s2_44 + 1))) rfl rfl (r_move rfl rfl) ?_
          refine fin ?_
          exact nx68 (IntKind.i64.wrap (s2_44 + 1)) _ _ _ B H rfl
      · replace H := at_itef hb78 H
        refine c_exit (o76 _ _ _ nofun (o69 _ _ _ nofun (x66 _ _ ?_)))
        refine n56 _ _ ?_
        refine c_seq (fun Q105 n103 o104 => ?_)
        refine c_seq (fun Q108 n106 o107 => ?_)
        refine c_region ?_
        refine stp (v := .int .i64 0) rfl rfl (r_assign rfl rfl) ?_
        refine fin ?_
        refine n106 _ _ ?_
        refine c_block (fun Q112 n109 x111 o110 => ?_)
        refine c_loop (σ := Int) (s0 := 0) (fun s => [(1, .pointer (some (⟨g5, 0, none⟩ : Addr))), (3, .pointer (some (⟨g39, 0, none⟩ : Addr))), (4, .pointer (some (⟨g41, 0, none⟩ : Addr))), (5, .pointer (some (⟨g50, 0, none⟩ : Addr))), (6, .func (.func 32) #[] #[.pointer (some (⟨g5, 0, none⟩ : Addr)), .pointer (some (⟨g41, 0, none⟩ : Addr)), .pointer (some (⟨g39, 0, none⟩ : Addr)), .pointer (some (⟨g50, 0, none⟩ : Addr))]), (9, .int .i64 s)]) (fun s => []) B H rfl ?_
        rintro Q115 next116 s3_9 g w N nx113 o114 B H
        refine c_seq (fun Q119 n117 o118 => ?_)
        refine c_seq (fun Q122 n120 o121 => ?_)
        refine c_region ?_
        refine stp (v := .int .i64 s3_9) rfl rfl (r_move rfl rfl) ?_
        obtain ⟨x123, hx124, H'⟩ := at_ldc H
        replace H := H'; clear H'
        refine stp (v := Sl.v x123) rfl rfl (r_load (v1 := .pointer (some (⟨g50, 0, none⟩ : Addr))) rfl rfl (ld1 Try.underlying24 rfl (hx124 _ (Below.refl _ _)))) ?_
        refine stp (v := .int .i64 (x123.n : Int)) rfl rfl (r_builtin (vs := [Sl.v x123]) rfl rfl (fun _ => lenl Try.underlying24)) ?_
        refine stp (v := .bool (decide (s3_9 < (x123.n : Int)))) rfl rfl (r_lss (a := s3_9) (b := (x123.n : Int)) rfl rfl rfl) ?_
        refine fin ?_
        refine n120 _ _ ?_
        refine c_cond (b := decide (s3_9 < (x123.n : Int))) rfl (fun hb125 => ?_) (fun hb125 => ?_)
        · replace H := at_itet hb125 H
          refine c_skip ?_
          refine n117 _ _ ?_
          refine c_seq (fun Q128 n126 o127 => ?_)
          refine c_block (fun Q132 n129 x131 o130 => ?_)
          refine c_seq (fun Q135 n133 o134 => ?_)
          refine c_quiet rfl (by kernel_rfl) ?_
          refine qstp (v := .pointer (some ((⟨g5, 0, none⟩ : Addr).add 0))) rfl rfl (fun w_ hb_ => (r_fieldAddr (v1 := .pointer (some (⟨g5, 0, none⟩ : Addr))) rfl rfl (fld26_0 _ _))) ?_
          obtain ⟨x136, hx137, H'⟩ := at_ldc H
          replace H := H'; clear H'
          refine qstp (v := Sl.v x136) rfl rfl (fun w_ hb_ => (r_load (v1 := .pointer (some ((⟨g5, 0, none⟩ : Addr).add 0))) rfl rfl (ld1 Try.underlying23 rfl (hx137 _ hb_)))) ?_
          obtain ⟨x138, hx139, H'⟩ := at_ldc H
          replace H := H'; clear H'
          refine qstp (v := Sl.v x138) rfl rfl (fun w_ hb_ => (r_load (v1 := .pointer (some (⟨g50, 0, none⟩ : Addr))) rfl rfl (ld1 Try.underlying24 rfl (hx139 _ hb_)))) ?_
          refine qstp (v := .int .i64 s3_9) rfl rfl (fun w_ hb_ => (r_move rfl rfl)) ?_
          obtain ⟨p140, p141, he, h0, h1, hpa, H'⟩ := at_idx' H
          replace H := H'; clear H'
          refine qstp (v := .pointer (some p141)) rfl rfl (fun w_ hb_ => (r_indexAddr (v1 := Sl.v x138) (v2 := .int .i64 s3_9) rfl rfl rfl (ix' Try.underlying24 sz3 he h0 h1 hpa))) ?_
          clear he h0 h1 hpa
          obtain ⟨x142, hx143, H'⟩ := at_ldc H
          replace H := H'; clear H'
          refine qstp (v := .int .i64 x142) rfl rfl (fun w_ hb_ => (r_load (v1 := .pointer (some p141)) rfl rfl (ld1 Try.underlying3 rfl (hx143 _ hb_)))) ?_
          obtain ⟨p144, p145, he, h0, h1, hpa, H'⟩ := at_idx' H
          replace H := H'; clear H'
          refine qstp (v := .pointer (some p145)) rfl rfl (fun w_ hb_ => (r_indexAddr (v1 := Sl.v x136) (v2 := .int .i64 x142) rfl rfl rfl (ix' Try.underlying23 sz70 he h0 h1 hpa))) ?_
          clear he h0 h1 hpa
          refine qstp (v := .pointer (some (p145.add 2))) rfl rfl (fun w_ hb_ => (r_fieldAddr (v1 := .pointer (some p145)) rfl rfl (fld70_2 _ _))) ?_
          obtain ⟨x146, hx147, H'⟩ := at_ldc H
          replace H := H'; clear H'
          refine qstp (v := Sl.v x146) rfl rfl (fun w_ hb_ => (r_load (v1 := .pointer (some (p145.add 2))) rfl rfl (ld1 Try.underlying24 rfl (hx147 _ hb_)))) ?_
          refine qstp (v := .int .i64 (x146.n : Int)) rfl rfl (fun w_ hb_ => (r_builtin (vs := [Sl.v x146]) rfl rfl (fun _ => lenl Try.underlying24))) ?_
          refine qstp (v := .int .i64 0) rfl rfl (fun w_ hb_ => (r_move rfl rfl)) ?_
          refine qfin (fun w hb => ?_)
          replace B := B.quiet (Qt.of_below hb)
          replace H := H.step (Nz.of_below hb)
          refine n133 _ _ ?_
          refine c_block (fun Q151 n148 x150 o149 => ?_)
          refine c_loop (σ := Int) (s0 := 0) (fun s => [(1, .pointer (some (⟨g5, 0, none⟩ : Addr))), (3, .pointer (some (⟨g39, 0, none⟩ : Addr))), (4, .pointer (some (⟨g41, 0, none⟩ : Addr))), (5, .pointer (some (⟨g50, 0, none⟩ : Addr))), (6, .func (.func 32) #[] #[.pointer (some (⟨g5, 0, none⟩ : Addr)), .pointer (some (⟨g41, 0, none⟩ : Addr)), .pointer (some (⟨g39, 0, none⟩ : Addr)), .pointer (some (⟨g50, 0, none⟩ : Addr))]), (9, .int .i64 s3_9), (69, Sl.v x146), (70, .int .i64 (x146.n : Int)), (71, .int .i64 s)]) (fun s => []) B H rfl ?_
          rintro Q154 next155 s4_71 g w N nx152 o153 B H
          refine c_seq (fun Q158 n156 o157 => ?_)
          refine c_region ?_
          refine stp (v := .bool (decide (s4_71 < (x146.n : Int)))) rfl rfl (r_lss (a := s4_71) (b := (x146.n : Int)) rfl rfl rfl) ?_
          refine fin ?_
          refine n156 _ _ ?_
          refine c_seq (fun Q161 n159 o160 => ?_)
          refine c_cond (b := decide (s4_71 < (x146.n : Int))) rfl (fun hb162 => ?_) (fun hb162 => ?_)
          · replace H := at_itet hb162 H
            refine c_skip ?_
            refine n159 _ _ ?_
            refine c_seq (fun Q165 n163 o164 => ?_)
            refine c_block (fun Q169 n166 x168 o167 => ?_)
            refine c_seq (fun Q172 n170 o171 => ?_)
            refine c_region ?_
            obtain ⟨p173, p174, he, h0, h1, hpa, H'⟩ := at_idx' H
            replace H := H'; clear H'
            refine stp (v := .pointer (some p174)) rfl rfl (r_indexAddr (v1 := Sl.v x146) (v2 := .int .i64 s4_71) rfl rfl rfl (ix' Try.underlying24 sz3 he h0 h1 hpa)) ?_
            clear he h0 h1 hpa
            obtain ⟨x175, hx176, H'⟩ := at_ldc H
            replace H := H'; clear H'
            refine stp (v := .int .i64 x175) rfl rfl (r_load (v1 := .pointer (some p174)) rfl rfl (ld1 Try.underlying3 rfl (hx176 _ (Below.refl _ _)))) ?_
            refine stp (v := .int .i64 x175) rfl rfl (r_assign rfl rfl) ?_
            refine fin ?_
            refine n170 _ _ ?_
            refine c_seq (fun Q179 n177 o178 => ?_)
            refine c_open 10 (kap [] []) (fun i b => .pointer (some ⟨b, 0, none⟩)) (fun _ => []) (fun i => []) [0, 1, 2, 3, 4, 5, 6, 7, 8, 9] [] [] _ rfl (by kernel_rfl) (by kernel_rfl) rfl B (flk (by simp) al_nil) ?_
            refine ph_q (v := .func (.func 32) #[] #[.pointer (some (⟨g5, 0, none⟩ : Addr)), .pointer (some (⟨g41, 0, none⟩ : Addr)), .pointer (some (⟨g39, 0, none⟩ : Addr)), .pointer (some (⟨g50, 0, none⟩ : Addr))]) rfl rfl rfl (hv_ok rfl rfl) (qy_val rfl (fun w_ ρ_ hb_ => (r_move rfl rfl))) ?_
            refine ph_q (v := .int .i64 x175) rfl rfl rfl (hv_ok rfl rfl) (qy_val rfl (fun w_ ρ_ hb_ => (r_move rfl rfl))) ?_
            obtain ⟨x180, hx181, H'⟩ := at_ldcz H
            replace H := H'; clear H'
            refine ph_q (v := Sl.v x180) rfl rfl rfl (hv_ok rfl rfl) (qy_val rfl (fun w_ ρ_ hb_ => (r_load (v1 := .pointer (some (⟨g39, 0, none⟩ : Addr))) rfl rfl (ld1 Try.underlying24 rfl (Cls.ld hx181 hb_))))) ?_
            obtain ⟨x182, hx183, H'⟩ := at_ldcz H
            replace H := H'; clear H'
            refine ph_q (v := Sl.v x182) rfl rfl rfl (hv_ok rfl rfl) (qy_val rfl (fun w_ ρ_ hb_ => (r_load (v1 := .pointer (some (⟨g50, 0, none⟩ : Addr))) rfl rfl (ld1 Try.underlying24 rfl (Cls.ld hx183 hb_))))) ?_
            refine ph_q (v := .int .i64 s3_9) rfl rfl rfl (hv_ok rfl rfl) (qy_val rfl (fun w_ ρ_ hb_ => (r_move rfl rfl))) ?_
            obtain ⟨p184, p185, he186, h0187, h1188, hpa189, H'⟩ := at_idx' H
            replace H := H'; clear H'
            refine ph_q (v := .pointer (some p185)) rfl rfl rfl (hv_ok rfl rfl) (qy_val rfl (fun w_ ρ_ hb_ => (r_indexAddr (v1 := Sl.v x182) (v2 := .int .i64 s3_9) rfl rfl rfl (ix' Try.underlying24 sz3 he186 h0187 h1188 hpa189)))) ?_
            obtain ⟨x190, hx191, H'⟩ := at_ldcz H
            replace H := H'; clear H'
            refine ph_q (v := .int .i64 x190) rfl rfl rfl (hv_ok rfl rfl) (qy_val rfl (fun w_ ρ_ hb_ => (r_load (v1 := .pointer (some p185)) rfl rfl (ld1 Try.underlying3 rfl (Cls.ld hx191 hb_))))) ?_
            obtain ⟨p192, p193, he194, h0195, h1196, hpa197, H'⟩ := at_idx' H
            replace H := H'; clear H'
            refine ph_q (v := .pointer (some p193)) rfl rfl rfl (hv_ok rfl rfl) (qy_val rfl (fun w_ ρ_ hb_ => (r_indexAddr (v1 := Sl.v x180) (v2 := .int .i64 x190) rfl rfl rfl (ix' Try.underlying24 sz3 he194 h0195 h1196 hpa197)))) ?_
            obtain ⟨x198, hx199, H'⟩ := at_ldcz H
            replace H := H'; clear H'
            refine ph_q (v := .int .i64 x198) rfl rfl rfl (hv_ok rfl rfl) (qy_val rfl (fun w_ ρ_ hb_ => (r_load (v1 := .pointer (some p193)) rfl rfl (ld1 Try.underlying3 rfl (Cls.ld hx199 hb_))))) ?_
            refine ph_q (v := .int .i64 (IntKind.i64.wrap (x198 - 1))) rfl rfl rfl (hv_ok rfl rfl) (qy_val rfl (fun w_ ρ_ hb_ => (r_sub (a := x198) (b := 1) rfl rfl rfl))) ?_
            refine ph_nil0 (fun w N hz B => ?_)
            replace H := H.step hz
            refine stpc rfl rfl (r_callv (x := .tmp 75) (vs := [.int .i64 x175, .int .i64 (IntKind.i64.wrap (x198 - 1))]) (cs := #[.pointer (some (⟨g5, 0, none⟩ : Addr)), .pointer (some (⟨g41, 0, none⟩ : Addr)), .pointer (some (⟨g39, 0, none⟩ : Addr)), .pointer (some (⟨g50, 0, none⟩ : Addr))]) (us := #[.int .i64 x175, .int .i64 (IntKind.i64.wrap (x198 - 1)), .pointer (some (⟨g5, 0, none⟩ : Addr)), .pointer (some (⟨g41, 0, none⟩ : Addr)), .pointer (some (⟨g39, 0, none⟩ : Addr)), .pointer (some (⟨g50, 0, none⟩ : Addr))]) rfl rfl rfl (by simp) (ca32 _ _)) ?_
            refine at_call B H (fun y200 w B H => ?_)
            refine stp (v := .bool (!y200)) rfl rfl (r_not (b := y200) rfl rfl) ?_
            refine fin ?_
            refine n177 _ _ ?_
            refine c_cond (b := !y200) rfl (fun hb201 => ?_) (fun hb201 => ?_)
            · replace H := at_itet hb201 H
              refine c_seq (fun Q204 n202 o203 => ?_)
              refine c_region ?_
              refine stp (v := .bool false) rfl rfl (r_assign rfl rfl) ?_
              refine fin ?_
              refine n202 _ _ ?_
              refine c_ret (o167 _ _ _ nofun (by simp) (o164 _ _ _ nofun (o153 _ _ _ nofun (o149 _ _ _ nofun (by simp) (o130 _ _ _ nofun (by simp) (o127 _ _ _ nofun (o114 _ _ _ nofun (o110 _ _ _ nofun (by simp) (o104 _ _ _ nofun ((done (vs := [.bool false]) (.tmp rfl .nil) rfl ⟨_, rfl, H.now⟩)))))))))))
            · replace H := at_itef hb201 H
              refine c_skip ?_
              refine n166 _ _ ?_
              refine n163 _ _ ?_
              refine c_region ?_
              refine stp (v := .int .i64 (IntKind.i64.wrap (s4_71 + 1))) rfl rfl (r_add (a := s4_71) (b := 1) rfl rfl rfl) ?_
              refine stp (v := .int .i64 (IntKind.i64.wrap (s4_71 + 1))) rfl rfl (r_move rfl rfl) ?_
              refine fin ?_
              exact nx152 (IntKind.i64.wrap (s4_71 + 1)) _ _ _ B H rfl
          · replace H := at_itef hb162 H
            refine c_exit (o160 _ _ _ nofun (o153 _ _ _ nofun (x150 _ _ ?_)))
            refine n129 _ _ ?_
            refine n126 _ _ ?_
            refine c_region ?_
            refine stp (v := .int .i64 s3_9) rfl rfl (r_move rfl rfl) ?_
            refine stp (v := .int .i64 (IntKind.i64.wrap (s3_9 + 1))) rfl rfl (r_add (a := s3_9) (b := 1) rfl rfl rfl) ?_
            refine stp (v := .int .i64 (IntKind.i64.wrap (s3_9 + 1))) rfl rfl (r_assign rfl rfl) ?_
            refine fin ?_
            exact nx113 (IntKind.i64.wrap (s3_9 + 1)) _ _ _ B H rfl
        · replace H := at_itef hb125 H
          refine c_exit (o118 _ _ _ nofun (o114 _ _ _ nofun (x111 _ _ ?_)))
          refine n103 _ _ ?_
          refine c_seq (fun Q207 n205 o206 => ?_)
          refine c_seq (fun Q210 n208 o209 => ?_)
          refine c_region ?_
          refine stp (v := .pointer (some ((⟨g5, 0, none⟩ : Addr).add 0))) rfl rfl (r_fieldAddr (v1 := .pointer (some (⟨g5, 0, none⟩ : Addr))) rfl rfl (fld26_0 _ _)) ?_
          obtain ⟨x211, hx212, H'⟩ := at_ldc H
          replace H := H'; clear H'
          refine stp (v := Sl.v x211) rfl rfl (r_load (v1 := .pointer (some ((⟨g5, 0, none⟩ : Addr).add 0))) rfl rfl (ld1 Try.underlying23 rfl (hx212 _ (Below.refl _ _)))) ?_
          refine stp (v := .int .i64 (x211.n : Int)) rfl rfl (r_builtin (vs := [Sl.v x211]) rfl rfl (fun _ => lenl Try.underlying23)) ?_
          refine stp (v := .int .i64 0) rfl rfl (r_move rfl rfl) ?_
          refine fin ?_
          refine n208 _ _ ?_
          refine c_block (fun Q216 n213 x215 o214 => ?_)
          refine c_loop (σ := Int) (s0 := 0) (fun s => [(4, .pointer (some (⟨g41, 0, none⟩ : Addr))), (89, Sl.v x211), (90, .int .i64 (x211.n : Int)), (91, .int .i64 s)]) (fun s => []) B H rfl ?_
          rintro Q219 next220 s5_91 g w N nx217 o218 B H
          refine c_seq (fun Q223 n221 o222 => ?_)
          refine c_region ?_
          refine stp (v := .bool (decide (s5_91 < (x211.n : Int)))) rfl rfl (r_lss (a := s5_91) (b := (x211.n : Int)) rfl rfl rfl) ?_
          refine fin ?_
          refine n221 _ _ ?_
          refine c_seq (fun Q226 n224 o225 => ?_)
          refine c_cond (b := decide (s5_91 < (x211.n : Int))) rfl (fun hb227 => ?_) (fun hb227 => ?_)
          · replace H := at_itet hb227 H
            refine c_skip ?_
            refine n224 _ _ ?_
            refine c_seq (fun Q230 n228 o229 => ?_)
            refine c_block (fun Q234 n231 x233 o232 => ?_)
            refine c_seq (fun Q237 n235 o236 => ?_)
            refine c_region ?_
            refine stp (v := .int .i64 s5_91) rfl rfl (r_move rfl rfl) ?_
            obtain ⟨p238, p239, he, h0, h1, hpa, H'⟩ := at_idx' H
            replace H := H'; clear H'
            refine stp (v := .pointer (some p239)) rfl rfl (r_indexAddr (v1 := Sl.v x211) (v2 := .int .i64 s5_91) rfl rfl rfl (ix' Try.underlying23 sz70 he h0 h1 hpa)) ?_
            clear he h0 h1 hpa
            obtain ⟨x240_0, hx241, H'⟩ := at_ldc H
            replace H := H'; clear H'
            obtain ⟨x240_1, hx242, H'⟩ := at_ldc H
            replace H := H'; clear H'
            obtain ⟨x240_2, hx243, H'⟩ := at_ldc H
            replace H := H'; clear H'
            refine stp (v := .agg #[.int .i64 x240_0, .string x240_1, Sl.v x240_2]) rfl rfl (r_load (v1 := .pointer (some p239)) rfl rfl (ldn (cs := [.int .i64 x240_0, .string x240_1, Sl.v x240_2]) Try.underlying70 rfl sz70 (cells_start (cells_cons (m := 0) (hx241 _ (Below.refl _ _)) (cells_cons (m := 1) (hx242 _ (Below.refl _ _)) (cells_cons (m := 2) (hx243 _ (Below.refl _ _)) cells_nil)))))) ?_
            obtain ⟨w244, N, g245, hw, hg, B, H⟩ := B.new H 70 #[.int .i64 0, .string (⟨#[]⟩ : ByteArray), Sl.v Sl.nil]
            refine stp (v := .pointer (some ⟨g245, 0, none⟩)) (w' := w244) rfl rfl (r_alloc rfl (alloc_run (al70 _) hw hg)) ?_
            clear hw hg
            refine stp (v := .int .i64 s5_91) rfl rfl (r_assign rfl rfl) ?_
            obtain ⟨w2, hr, B, H⟩ := B.stn H (i := 0) (T := 70) (cs' := #[.int .i64 x240_0, .string x240_1, Sl.v x240_2]) (ad := ⟨g245, 0, none⟩) rfl rfl rfl rfl sz70
            refine stp0 rfl rfl (r_store (v1 := .pointer (some ⟨g245, 0, none⟩)) (v2 := .agg #[.int .i64 x240_0, .string x240_1, Sl.v x240_2]) rfl rfl rfl hr) ?_
            replace B : Bx _ _ [⟨g245, 70, #[.int .i64 x240_0, .string x240_1, Sl.v x240_2]⟩] := B
            clear hr
            refine fin ?_
            refine n235 _ _ ?_
            refine c_seqj (fun a w => ∃ (j6_118 : Bool) (g : Nat → Value) (N : NP), a = A 120 (updl g [(4, .pointer (some (⟨g41, 0, none⟩ : Addr))), (89, Sl.v x211), (90, .int .i64 (x211.n : Int)), (91, .int .i64 s5_91), (118, .bool j6_118)]) ∧ Bx w N [⟨g245, 70, #[.int .i64 x240_0, .string x240_1, Sl.v x240_2]⟩] ∧ Aft w N (f8_impl_GoodCow.J6 R (fun (z0 : Int) => next220 z0) s5_91 j6_118)) (fun Q248 n246 o247 => ?_) ?_
            ·
              refine c_quiet rfl (by kernel_rfl) ?_
              refine qstp (v := .pointer (some ⟨g245, 0, none⟩)) rfl rfl (fun w_ hb_ => (r_fieldAddr (v1 := .pointer (some ⟨g245, 0, none⟩)) rfl rfl (fld70_0 _ _))) ?_
              refine qstp (v := .int .i64 x240_0) rfl rfl (fun w_ hb_ => (r_load (v1 := .pointer (some ⟨g245, 0, none⟩)) rfl rfl (ld1 Try.underlying3 rfl (bx1 ((B.quiet (Qt.of_below hb_)).get 0 rfl) rfl rfl)))) ?_
              obtain ⟨x249, hx250, H'⟩ := at_ldc H
              replace H := H'; clear H'
              refine qstp (v := Sl.v x249) rfl rfl (fun w_ hb_ => (r_load (v1 := .pointer (some (⟨g41, 0, none⟩ : Addr))) rfl rfl (ld1 Try.underlying24 rfl (hx250 _ hb_)))) ?_
              refine qstp (v := .int .i64 s5_91) rfl rfl (fun w_ hb_ => (r_move rfl rfl)) ?_
              obtain ⟨p251, p252, he, h0, h1, hpa, H'⟩ := at_idx' H
              replace H := H'; clear H'
              refine qstp (v := .pointer (some p252)) rfl rfl (fun w_ hb_ => (r_indexAddr (v1 := Sl.v x249) (v2 := .int .i64 s5_91) rfl rfl rfl (ix' Try.underlying24 sz3 he h0 h1 hpa))) ?_
              clear he h0 h1 hpa
              obtain ⟨x253, hx254, H'⟩ := at_ldc H
              replace H := H'; clear H'
              refine qstp (v := .int .i64 x253) rfl rfl (fun w_ hb_ => (r_load (v1 := .pointer (some p252)) rfl rfl (ld1 Try.underlying3 rfl (hx254 _ hb_)))) ?_
              refine qstp (v := .bool (x240_0 != x253)) rfl rfl (fun w_ hb_ => (r_neq (a := x240_0) (b := x253) rfl rfl rfl)) ?_
              refine qstp (v := .bool (x240_0 != x253)) rfl rfl (fun w_ hb_ => (r_move rfl rfl)) ?_
              rcases Bool.eq_false_or_eq_true (x240_0 != x253) with hb255 | hb255
              · replace H := at_itet hb255 H
                refine qskp (un rfl rfl rfl rfl (congrArg Value.bool hb255) nofun) rfl ?_
                refine qskp (un rfl rfl rfl rfl (congrArg Value.bool hb255) nofun) rfl ?_
                refine qskp (un rfl rfl rfl rfl (congrArg Value.bool hb255) nofun) rfl ?_
                refine qskp (un rfl rfl rfl rfl (congrArg Value.bool hb255) nofun) rfl ?_
                refine qskp (un_undef rfl rfl rfl rfl rfl) rfl ?_
                refine qskp (un_undef rfl rfl rfl rfl rfl) rfl ?_
                refine qskp (un_undef rfl rfl rfl rfl rfl) rfl ?_
                refine qskp (un_undef rfl rfl rfl rfl rfl) rfl ?_
                refine qskp (un_undef rfl rfl rfl rfl rfl) rfl ?_
                refine qskp (un_undef rfl rfl rfl rfl rfl) rfl ?_
                refine qskp (un_undef rfl rfl rfl rfl rfl) rfl ?_
                refine qskp (un_undef rfl rfl rfl rfl rfl) rfl ?_
                refine qskp (un_undef rfl rfl rfl rfl rfl) rfl ?_
                refine qskp (un rfl rfl rfl rfl (congrArg Value.bool hb255) nofun) rfl ?_
                refine qstp (v := .bool true) rfl rfl (fun w_ hb_ => (r_pickt rfl (congrArg Value.bool hb255) rfl)) ?_
                refine qfin (fun w hb => ?_)
                replace B := B.quiet (Qt.of_below hb)
                replace H := H.step (Nz.of_below hb)
                exact n246 _ _ ⟨true, _, _, fr_self rfl, B, H⟩
              · replace H := at_itef hb255 H
                refine qstp (v := .pointer (some ⟨g245, 0, none⟩)) (wn rfl rfl rfl rfl (congrArg Value.bool hb255)) rfl (fun w_ hb_ => (r_fieldAddr (v1 := .pointer (some ⟨g245, 0, none⟩)) rfl rfl (fld70_0 _ _))) ?_
                refine qstp (v := .int .i64 x240_0) (wn rfl rfl rfl rfl (congrArg Value.bool hb255)) rfl (fun w_ hb_ => (r_load (v1 := .pointer (some ⟨g245, 0, none⟩)) rfl rfl (ld1 Try.underlying3 rfl (bx1 ((B.quiet (Qt.of_below hb_)).get 0 rfl) rfl rfl)))) ?_
                refine qstp (v := .bool (x240_0 == 0)) (wn rfl rfl rfl rfl (congrArg Value.bool hb255)) rfl (fun w_ hb_ => (r_eql (a := x240_0) (b := 0) rfl rfl rfl)) ?_
                refine qstp (v := .bool (x240_0 == 0)) (wn rfl rfl rfl rfl (congrArg Value.bool hb255)) rfl (fun w_ hb_ => (r_move rfl rfl)) ?_
                rcases Bool.eq_false_or_eq_true (x240_0 == 0) with hb256 | hb256
                · replace H := at_itet hb256 H
                  refine qstp (v := .pointer (some ⟨g245, 1, none⟩)) (wn rfl rfl rfl rfl (congrArg Value.bool hb256)) rfl (fun w_ hb_ => (r_fieldAddr (v1 := .pointer (some ⟨g245, 0, none⟩)) rfl rfl (fld70_1 _ _))) ?_
                  refine qstp (v := .string x240_1) (wn rfl rfl rfl rfl (congrArg Value.bool hb256)) rfl (fun w_ hb_ => (r_load (v1 := .pointer (some ⟨g245, 1, none⟩)) rfl rfl (ld1 Try.underlying9 rfl (bx1 ((B.quiet (Qt.of_below hb_)).get 0 rfl) rfl rfl)))) ?_
                  refine qstp (v := .bool (!(x240_1.toList == (⟨#[]⟩ : ByteArray).toList))) (wn rfl rfl rfl rfl (congrArg Value.bool hb256)) rfl (fun w_ hb_ => (r_sneq (s := x240_1) (t := (⟨#[]⟩ : ByteArray)) rfl rfl rfl)) ?_
                  refine qstp (v := .bool (!(x240_1.toList == (⟨#[]⟩ : ByteArray).toList))) (wn rfl rfl rfl rfl (congrArg Value.bool hb256)) rfl (fun w_ hb_ => (r_move rfl rfl)) ?_
                  rcases Bool.eq_false_or_eq_true (!(x240_1.toList == (⟨#[]⟩ : ByteArray).toList)) with hb257 | hb257
                  · replace H := at_itet hb257 H
                    refine qskp (un rfl rfl rfl rfl (congrArg Value.bool hb257) nofun) rfl ?_
                    refine qskp (un rfl rfl rfl rfl (congrArg Value.bool hb257) nofun) rfl ?_
                    refine qskp (un rfl rfl rfl rfl (congrArg Value.bool hb257) nofun) rfl ?_
                    refine qskp (un rfl rfl rfl rfl (congrArg Value.bool hb257) nofun) rfl ?_
                    refine qstp (v := .bool true) (wn rfl rfl rfl rfl (congrArg Value.bool hb256)) rfl (fun w_ hb_ => (r_pickt rfl (congrArg Value.bool hb257) rfl)) ?_
                    refine qstp (v := .bool true) (wn rfl rfl rfl rfl (congrArg Value.bool hb255)) rfl (fun w_ hb_ => (r_pickt rfl (congrArg Value.bool hb256) rfl)) ?_
                    refine qstp (v := .bool true) rfl rfl (fun w_ hb_ => (r_pickf rfl (congrArg Value.bool hb255) rfl)) ?_
                    refine qfin (fun w hb => ?_)
                    replace B := B.quiet (Qt.of_below hb)
                    replace H := H.step (Nz.of_below hb)
                    exact n246 _ _ ⟨true, _, _, fr_self rfl, B, H⟩
                  · replace H := at_itef hb257 H
                    refine qstp (v := .pointer (some ⟨g245, 2, none⟩)) (wn rfl rfl rfl rfl (congrArg Value.bool hb257)) rfl (fun w_ hb_ => (r_fieldAddr (v1 := .pointer (some ⟨g245, 0, none⟩)) rfl rfl (fld70_2 _ _))) ?_
                    refine qstp (v := Sl.v x240_2) (wn rfl rfl rfl rfl (congrArg Value.bool hb257)) rfl (fun w_ hb_ => (r_load (v1 := .pointer (some ⟨g245, 2, none⟩)) rfl rfl (ld1 Try.underlying24 rfl (bx1 ((B.quiet (Qt.of_below hb_)).get 0 rfl) rfl rfl)))) ?_
                    refine qstp (v := .int .i64 (x240_2.n : Int)) (wn rfl rfl rfl rfl (congrArg Value.bool hb257)) rfl (fun w_ hb_ => (r_builtin (vs := [Sl.v x240_2]) rfl rfl (fun _ => lenl Try.underlying24))) ?_
                    refine qstp (v := .bool (decide (0 < (x240_2.n : Int)))) (wn rfl rfl rfl rfl (congrArg Value.bool hb257)) rfl (fun w_ hb_ => (r_gtr (a := (x240_2.n : Int)) (b := 0) rfl rfl rfl)) ?_
                    refine qstp (v := .bool (decide (0 < (x240_2.n : Int)))) (wn rfl rfl rfl rfl (congrArg Value.bool hb256)) rfl (fun w_ hb_ => (r_pickf rfl (congrArg Value.bool hb257) rfl)) ?_
                    refine qstp (v := .bool (decide (0 < (x240_2.n : Int)))) (wn rfl rfl rfl rfl (congrArg Value.bool hb255)) rfl (fun w_ hb_ => (r_pickt rfl (congrArg Value.bool hb256) rfl)) ?_
                    refine qstp (v := .bool (decide (0 < (x240_2.n : Int)))) rfl rfl (fun w_ hb_ => (r_pickf rfl (congrArg Value.bool hb255) rfl)) ?_
                    refine qfin (fun w hb => ?_)
                    replace B := B.quiet (Qt.of_below hb)
                    replace H := H.step (Nz.of_below hb)
                    exact n246 _ _ ⟨decide (0 < (x240_2.n : Int)), _, _, fr_self rfl, B, H⟩
                · replace H := at_itef hb256 H
                  refine qskp (un rfl rfl rfl rfl (congrArg Value.bool hb256) nofun) rfl ?_
                  refine qskp (un rfl rfl rfl rfl (congrArg Value.bool hb256) nofun) rfl ?_
                  refine qskp (un rfl rfl rfl rfl (congrArg Value.bool hb256) nofun) rfl ?_
                  refine qskp (un rfl rfl rfl rfl (congrArg Value.bool hb256) nofun) rfl ?_
                  refine qskp (un_undef rfl rfl rfl rfl rfl) rfl ?_
                  refine qskp (un_undef rfl rfl rfl rfl rfl) rfl ?_
                  refine qskp (un_undef rfl rfl rfl rfl rfl) rfl ?_
                  refine qskp (un_undef rfl rfl rfl rfl rfl) rfl ?_
                  refine qskp (un rfl rfl rfl rfl (congrArg Value.bool hb256) nofun) rfl ?_
                  refine qstp (v := .bool false) (wn rfl rfl rfl rfl (congrArg Value.bool hb255)) rfl (fun w_ hb_ => (r_pickf rfl (congrArg Value.bool hb256) rfl)) ?_
                  refine qstp (v := .bool false) rfl rfl (fun w_ hb_ => (r_pickf rfl (congrArg Value.bool hb255) rfl)) ?_
                  refine qfin (fun w hb => ?_)
                  replace B := B.quiet (Qt.of_below hb)
                  replace H := H.step (Nz.of_below hb)
                  exact n246 _ _ ⟨false, _, _, fr_self rfl, B, H⟩
            ·
              rintro _ w ⟨j6_118, g, N, rfl, B, H⟩
              refine c_cond (b := j6_118) rfl (fun hb258 => ?_) (fun hb258 => ?_)
              · replace H := at_itet hb258 H
                refine c_seq (fun Q261 n259 o260 => ?_)
                refine c_region ?_
                refine stp (v := .bool false) rfl rfl (r_assign rfl rfl) ?_
                refine fin ?_
                refine n259 _ _ ?_
                refine c_ret (o232 _ _ _ nofun (by simp) (o229 _ _ _ nofun (o218 _ _ _ nofun (o214 _ _ _ nofun (by simp) (o206 _ _ _ nofun ((done (vs := [.bool false]) (.tmp rfl .nil) rfl ⟨_, rfl, H.now⟩)))))))
              · replace H := at_itef hb258 H
                refine c_skip ?_
                refine n231 _ _ ?_
                refine n228 _ _ ?_
                refine c_region ?_
                refine stp (v := .int .i64 (IntKind.i64.wrap (s5_91 + 1))) rfl rfl (r_add (a := s5_91) (b := 1) rfl rfl rfl) ?_
                refine stp (v := .int .i64 (IntKind.i64.wrap (s5_91 + 1))) rfl rfl (r_move rfl rfl) ?_
                refine fin ?_
                exact nx217 (IntKind.i64.wrap (s5_91 + 1)) _ _ _ (B.sub (List.Sublist.cons _ (List.Sublist.refl _))) H rfl
          · replace H := at_itef hb227 H
            refine c_exit (o225 _ _ _ nofun (o218 _ _ _ nofun (x215 _ _ ?_)))
            refine n205 _ _ ?_
            refine c_seq (fun Q264 n262 o263 => ?_)
            refine c_region ?_
            refine stp (v := .bool true) rfl rfl (r_assign rfl rfl) ?_
            refine fin ?_
            refine n262 _ _ ?_
            refine c_ret ((done (vs := [.bool true]) (.tmp rfl .nil) rfl ⟨_, rfl, H.now⟩))
end Go.Proofs.Ytboccoihmginiaa

namespace Go.Proofs.Ytboccoihmginiaa
open Go.RowKit Go.Sol
set_option linter.unusedVariables false
set_option linter.unusedSimpArgs false
structure PC where
  n : Int
  l : ByteArray
  k : List Int
  deriving DecidableEq
abbrev GC := PC × Sl
def cellsV : List GC → List Value
  | [] => []
  | g :: gs => .int .i64 g.1.n :: .string g.1.l :: Sl.v g.2 :: cellsV gs
@[simp] theorem cellsV_len (gs : List GC) : (cellsV gs).length = gs.length * 3 := by
  induction gs with
  | nil => rfl
  | cons g gs ih => simp only [cellsV, List.length_cons, ih]; omega
theorem cellsV_at {gs : List GC} {i : Nat} {g : GC} (h : gs[i]? = some g) : (cellsV gs)[i * 3]? = some (.int .i64 g.1.n) ∧ (cellsV gs)[i * 3 + 1]? = some (.string g.1.l) ∧ (cellsV gs)[i * 3 + 2]? = some (Sl.v g.2) := by
  induction gs generalizing i with
  | nil => simp at h
  | cons a gs ih =>
    cases i with
    | zero => simp at h; subst h; exact ⟨rfl, rfl, rfl⟩
    | succ i =>
      have := ih (i := i) (by simpa using h)
      simp only [cellsV]
      rw [show (i + 1) * 3 = i * 3 + 1 + 1 + 1 by omega]
      simpa using this
theorem cellsV_app (a b : List GC) : cellsV (a ++ b) = cellsV a ++ cellsV b := by
  induction a with
  | nil => rfl
  | cons g a ih => simp [cellsV, ih]
theorem cellsV_set0 {gs : List GC} {i : Nat} {g : GC} (h : gs[i]? = some g) (n : Int) : (cellsV gs).set (i * 3) (.int .i64 n) = cellsV (gs.set i ({ g.1 with n := n }, g.2)) := by
  induction gs generalizing i with
  | nil => simp at h
  | cons a gs ih =>
    cases i with
    | zero => simp at h; subst h; rfl
    | succ i =>
      rw [show (i + 1) * 3 = i * 3 + 1 + 1 + 1 by omega]
      simp only [cellsV, List.set_cons_succ]
      rw [ih (by simpa using h)]
theorem cellsV_set1 {gs : List GC} {i : Nat} {g : GC} (h : gs[i]? = some g) (l : ByteArray) : (cellsV gs).set (i * 3 + 1) (.string l) = cellsV (gs.set i ({ g.1 with l := l }, g.2)) := by
  induction gs generalizing i with
  | nil => simp at h
  | cons a gs ih =>
    cases i with
    | zero => simp at h; subst h; rfl
    | succ i =>
      rw [show (i + 1) * 3 + 1 = i * 3 + 1 + 1 + 1 + 1 by omega]
      simp only [cellsV, List.set_cons_succ]
      rw [ih (by simpa using h)]
theorem cellsV_set2 {gs : List GC} {i : Nat} {g : GC} (h : gs[i]? = some g) (s : Sl) (k : List Int) : (cellsV gs).set (i * 3 + 2) (Sl.v s) = cellsV (gs.set i ({ g.1 with k := k }, s)) := by
  induction gs generalizing i with
  | nil => simp at h
  | cons a gs ih =>
    cases i with
    | zero => simp at h; subst h; rfl
    | succ i =>
      rw [show (i + 1) * 3 + 2 = i * 3 + 1 + 1 + 1 + 1 + 1 by omega]
      simp only [cellsV, List.set_cons_succ]
      rw [ih (by simpa using h)]
/-- cells that are read -/
structure RC (w : World) (a : Sl) (gs : List GC) : Prop where
  hd : Rd w 3 a (cellsV gs)
  kd : ∀ g ∈ gs, Rd w 1 g.2 (ints g.1.k)
theorem RC.n {w : World} {a : Sl} {gs : List GC} (h : RC w a gs) : a.n = gs.length := by have := h.hd.1; simp at this; omega
theorem RC.below {w w' : World} {a : Sl} {gs : List GC} (h : RC w a gs) (hb : Below w.heap.size w w') : RC w' a gs := ⟨h.hd.below hb, fun g hg => (h.kd g hg).below hb⟩
theorem RC.st {w w' : World} {N : NP} {cs : List Ch} {a : Sl} {gs : List GC} (h : RC w a gs) (st : Stt w [] cs w' N) : RC w' a gs := h.below st.upd.below
theorem RC.at {w : World} {a : Sl} {gs : List GC} (h : RC w a gs) {i : Nat} (hi : i < gs.length) : ∃ ad, a.A = some ad ∧ w.cell? (ad.add (i * 3)) = some (.int .i64 gs[i].1.n) ∧ w.cell? ((ad.add (i * 3)).add 0) = some (.int .i64 gs[i].1.n) ∧
    w.cell? ((ad.add (i * 3)).add 1) = some (.string gs[i].1.l) ∧ w.cell? ((ad.add (i * 3)).add 2) = some (Sl.v gs[i].2) ∧ Rd w 1 gs[i].2 (ints gs[i].1.k) := by
  obtain ⟨ad, hA, hc⟩ := h.hd.addr (i := i) (by rw [h.n]; exact hi)
  have ha := cellsV_at (gs := gs) (i := i) (g := gs[i]) (by simp [hi])
  refine ⟨ad, hA, hc _ _ ha.1, ?_, ?_, ?_, h.kd _ (List.getElem_mem hi)⟩
  · rw [Addr.add_zero']; exact hc _ _ ha.1
  · rw [Addr.add_add]; exact hc _ _ ha.2.1
  · rw [Addr.add_add]; exact hc _ _ ha.2.2
/-- cells that are owned -/
def kidCh (gs : List GC) : List Ch := gs.map fun g => ⟨3, 1, g.2, ints g.1.k⟩
def cowCh (a : Sl) (gs : List GC) : List Ch := ⟨70, 3, a, cellsV gs⟩ :: kidCh gs
theorem Own_rc {w : World} {N : NP} {a : Sl} {gs : List GC} (o : Own w N (cowCh a gs)) : RC w a gs :=
  ⟨(o.ok _ (List.mem_cons_self)).rd, fun g hg => (o.ok ⟨3, 1, g.2, ints g.1.k⟩ (List.mem_cons_of_mem _ (List.mem_map.2 ⟨g, hg, rfl⟩))).rd⟩
def zeroG : GC := (⟨0, ⟨#[]⟩, []⟩, Sl.nil)
end Go.Proofs.Ytboccoihmginiaa

namespace Go.Proofs.Ytboccoihmginiaa
open Go.RowKit Go.Sol
set_option linter.unusedVariables false
set_option linter.unusedSimpArgs false
section
variable {w0 w : World} {cs0 rest : List Ch} {N : NP} {a : Sl} {gs : List GC} {i : Nat} {g : GC} {ad : Addr}
theorem cow_rc (st : Stt w0 cs0 (cowCh a gs ++ rest) w N) : RC w a gs := Own_rc st.own.left
theorem cow_ad (st : Stt w0 cs0 (cowCh a gs ++ rest) w N) (hi : i < gs.length) : ∃ ad, a.A = some ad ∧ (i : Int) < a.n := by
  obtain ⟨ad, hA, _⟩ := (cow_rc st).at hi
  exact ⟨ad, hA, by rw [(cow_rc st).n]; omega⟩
theorem cow_c0 (st : Stt w0 cs0 (cowCh a gs ++ rest) w N) (hA : a.A = some ad) (hg : gs[i]? = some g) : w.cell? ((ad.add (i * 3)).add 0) = some (.int .i64 g.1.n) := by
  rw [Addr.add_add]
  exact st.cell (i := 0) (c := ⟨70, 3, a, cellsV gs⟩) rfl hA (cellsV_at hg).1
theorem cow_c1 (st : Stt w0 cs0 (cowCh a gs ++ rest) w N) (hA : a.A = some ad) (hg : gs[i]? = some g) : w.cell? ((ad.add (i * 3)).add 1) = some (.string g.1.l) := by
  rw [Addr.add_add]
  exact st.cell (i := 0) (c := ⟨70, 3, a, cellsV gs⟩) rfl hA (cellsV_at hg).2.1
theorem cow_c2 (st : Stt w0 cs0 (cowCh a gs ++ rest) w N) (hA : a.A = some ad) (hg : gs[i]? = some g) : w.cell? ((ad.add (i * 3)).add 2) = some (Sl.v g.2) := by
  rw [Addr.add_add]
  exact st.cell (i := 0) (c := ⟨70, 3, a, cellsV gs⟩) rfl hA (cellsV_at hg).2.2
theorem kidCh_set {g' : GC} (hg : gs[i]? = some g) (h2 : g'.2 = g.2) (hk : g'.1.k = g.1.k) : kidCh (gs.set i g') = kidCh gs := by
  unfold kidCh
  rw [List.map_set]
  apply List.ext_getElem?
  intro j
  by_cases hj : i = j
  · subst hj
    have hil : i < gs.length := (List.getElem?_eq_some_iff.1 hg).1
    rw [List.getElem?_set_self (by simpa using hil), List.getElem?_map, hg]
    simp [h2, hk]
  · rw [List.getElem?_set_ne hj]
theorem t_c0 {n : Int} {K : Tm} (st : Stt w0 cs0 (cowCh a gs ++ rest) w N) (hA : a.A = some ad) (hg : gs[i]? = some g) (k1 : ∀ w' N', Stt w0 cs0 (cowCh a (gs.set i ({ g.1 with n := n }, g.2)) ++ rest) w' N' → K w' N') :
    T.stc ((ad.add (i * 3)).add 0) (.int .i64 n) K w N := by
  have hil : i < gs.length := (List.getElem?_eq_some_iff.1 hg).1
  refine t_stc (i := 0) (j := i * 3) (c := ⟨70, 3, a, cellsV gs⟩) st rfl hA (by simp; omega) (by rw [Addr.add_zero']) fun w' N' st => k1 w' N' (st.eq ?_)
  simp only [cowCh, List.cons_append, List.set_cons_zero]
  rw [cellsV_set0 hg, kidCh_set (g' := ({ g.1 with n := n }, g.2)) hg rfl rfl]
theorem t_c1 {l : ByteArray} {K : Tm} (st : Stt w0 cs0 (cowCh a gs ++ rest) w N) (hA : a.A = some ad) (hg : gs[i]? = some g) (k1 : ∀ w' N', Stt w0 cs0 (cowCh a (gs.set i ({ g.1 with l := l }, g.2)) ++ rest) w' N' → K w' N') :
    T.stc ((ad.add (i * 3)).add 1) (.string l) K w N := by
  have hil : i < gs.length := (List.getElem?_eq_some_iff.1 hg).1
  refine t_stc (i := 0) (j := i * 3 + 1) (c := ⟨70, 3, a, cellsV gs⟩) st rfl hA (by simp; omega) (by rw [Addr.add_add]) fun w' N' st => k1 w' N' (st.eq ?_)
  simp only [cowCh, List.cons_append, List.set_cons_zero]
  rw [cellsV_set1 hg, kidCh_set (g' := ({ g.1 with l := l }, g.2)) hg rfl rfl]
/-- the kids' header turned; the elder kids stay behind as a row -/
theorem t_c2 {s : Sl} {k : List Int} {K : Tm} (st : Stt w0 cs0 (cowCh a gs ++ rest) w N) (hA : a.A = some ad) (hg : gs[i]? = some g) (k1 : ∀ w' N', Stt w0 cs0 (⟨70, 3, a, cellsV (gs.set i ({ g.1 with k := k }, s))⟩ :: kidCh gs ++ rest) w' N' → K w' N') :
    T.stc ((ad.add (i * 3)).add 2) (Sl.v s) K w N := by
  have hil : i < gs.length := (List.getElem?_eq_some_iff.1 hg).1
  refine t_stc (i := 0) (j := i * 3 + 2) (c := ⟨70, 3, a, cellsV gs⟩) st rfl hA (by simp; omega) (by rw [Addr.add_add]) fun w' N' st => k1 w' N' (st.eq ?_)
  simp only [cowCh, List.cons_append, List.set_cons_zero]
  rw [cellsV_set2 (k := k) hg]
theorem kid_mid (D T : List GC) (g : GC) : (kidCh (D ++ g :: T)).Perm (⟨3, 1, g.2, ints g.1.k⟩ :: (kidCh (D ++ T))) := by
  unfold kidCh
  rw [List.map_append, List.map_append, List.map_cons]
  exact List.perm_middle
end
def cowO (a b : Sl) (gs : List GC) (rs : List Int) : List Ch := cowCh a gs ++ [⟨3, 1, b, ints rs⟩]
structure RW (w : World) (a b : Sl) (gs : List GC) (rs : List Int) : Prop where
  c : RC w a gs
  r : Rd w 1 b (ints rs)
theorem RW.below {w w' : World} {a b : Sl} {gs : List GC} {rs : List Int} (h : RW w a b gs rs) (hb : Below w.heap.size w w') : RW w' a b gs rs := ⟨h.c.below hb, h.r.below hb⟩
theorem RW.st {w w' : World} {N : NP} {cs : List Ch} {a b : Sl} {gs : List GC} {rs : List Int} (h : RW w a b gs rs) (st : Stt w [] cs w' N) : RW w' a b gs rs := h.below st.upd.below
theorem Own_rw {w : World} {N : NP} {a b : Sl} {gs : List GC} {rs : List Int} {rest : List Ch} (o : Own w N (cowO a b gs rs ++ rest)) : RW w a b gs rs :=
  ⟨Own_rc o.left.left, (o.left.right.ok _ (List.mem_singleton_self _)).rd⟩
end Go.Proofs.Ytboccoihmginiaa

namespace Go.Proofs.Ytboccoihmginiaa
open Go.RowKit Go.Sol
set_option linter.unusedVariables false
set_option linter.unusedSimpArgs false
theorem within_ok {w : World} (a b c : Int) : Calls Try.prog 22 #[.int .i64 a, .int .i64 b, .int .i64 c] w fun e w' => e = .returned (.bool (decide (b ≤ a ∧ a ≤ c))) ∧ Below w.heap.size w w' := by
  refine run_pure (fun R => f22_impl_within.ok R a b c w) fun R hR w1 N1 st => ?_
  unfold f22_impl_within.T f22_impl_within.J1
  refine t_ite (fun h => ?_) (fun h => ?_)
  · exact hR _ _ _ _ st (by simp at h; simp [h])
  · exact hR _ _ _ _ st (by simp at h; simp; omega)
theorem l1In_ok {w : World} (a b c : Int) : Calls Try.prog 27 #[.int .i64 a, .int .i64 b, .int .i64 c] w fun e w' => e = .returned (.bool (decide (b ≤ a ∧ a ≤ c))) ∧ Below w.heap.size w w' := by
  refine run_pure (fun R => f27_spec_l1In.ok R a b c w) fun R hR w1 N1 st => ?_
  unfold f27_spec_l1In.T f27_spec_l1In.J1
  refine t_ite (fun h => ?_) (fun h => ?_)
  · exact hR _ _ _ _ st (by simp at h; simp [h])
  · exact hR _ _ _ _ st (by simp at h; simp; omega)
theorem isNumber_ok {w : World} (a b : Sl) (lv k : Int) (hn : a.n ≤ maxLen) : Calls Try.prog 33 #[.agg #[Sl.v a, Sl.v b, .int .i64 lv], .int .i64 k] w fun e w' => e = .returned (.bool (decide (-1 ≤ k ∧ k ≤ (a.n : Int) - 1))) ∧ Below w.heap.size w w' := by
  refine run_pure (fun R => f33_impl_Cow_isNumber.ok R a b lv k w) fun R hR w1 N1 st => ?_
  unfold f33_impl_Cow_isNumber.T
  rw [w64i (by omega) (by simp only [maxLen] at hn; omega)]
  refine t_callp st (within_ok _ _ _) fun w2 N2 st => ?_
  exact hR _ _ _ _ st rfl
/-- the places of a level: 4 ^ (l - 1) -/
theorem places_ok {w : World} (a b : Sl) {lv : Nat} (h1 : 1 ≤ lv) (h2 : lv ≤ 3) : Calls Try.prog 23 #[.agg #[Sl.v a, Sl.v b, .int .i64 lv]] w fun e w' => e = .returned (.int .i64 ((4 ^ (lv - 1) : Nat) : Int)) ∧ Below w.heap.size w w' := by
  refine run_pure (fun R => f23_impl_Cow_places.ok R a b lv w) fun R hR w1 N1 st => ?_
  unfold f23_impl_Cow_places.T
  have h : lv = 1 ∨ lv = 2 ∨ lv = 3 := by omega
  rcases h with rfl | rfl | rfl
  · exact t_ass (by decide) (hR _ _ _ _ st (congrArg (Value.int .i64) (by decide)))
  · exact t_ass (by decide) (hR _ _ _ _ st (congrArg (Value.int .i64) (by decide)))
  · exact t_ass (by decide) (hR _ _ _ _ st (congrArg (Value.int .i64) (by decide)))
theorem l14Size_ok {w : World} {lv : Nat} (h1 : 1 ≤ lv) (h2 : lv ≤ 4) : Calls Try.prog 55 #[.int .i64 lv] w fun e w' => e = .returned (.int .i64 ((4 ^ (lv - 1) : Nat) : Int)) ∧ Below w.heap.size w w' := by
  refine run_pure (fun R => f55_spec_l14Size.ok R lv w) fun R hR w1 N1 st => ?_
  unfold f55_spec_l14Size.T
  refine t_loop (fun (m : Nat) (s : Int × Int) => s.1 = (m : Int) ∧ 1 ≤ m ∧ m ≤ lv ∧ s.2 = ((4 ^ (lv - m) : Nat) : Int)) (fun _ _ => []) (fun m _ => m) lv st ⟨rfl, h1, Nat.le_refl _, by simp⟩ ?_
  rintro m ⟨j, x⟩ w2 N2 next ⟨hj, hm, hml, hx⟩ st hn
  simp only at hj hx
  subst hj hx
  show f55_spec_l14Size.L1 R (m : Int) _ _ w2 N2
  unfold f55_spec_l14Size.L1
  have hp : 4 ^ (lv - m) ≤ 64 := Nat.pow_le_pow_right (show 0 < 4 by omega) (show lv - m ≤ 3 by omega)
  have hp2 : ((4 ^ (lv - m) : Nat) : Int) ≤ 64 := by omega
  generalize hx : 4 ^ (lv - m) = x at *
  refine t_ite (fun h => ?_) (fun h => ?_)
  · have hm2 : 1 < m := by simp at h; omega
    show next _ _ _
    rw [w64i (by omega) (by omega), w64i (by omega) (by omega)]
    refine hn (m - 1) _ _ _ ⟨by simp only; omega, by omega, by omega, ?_⟩ (by omega) st
    rw [show lv - (m - 1) = lv - m + 1 by omega, Nat.pow_succ, hx]
    simp
  · have hm2 : m = 1 := by simp at h; omega
    subst hm2
    exact hR _ _ _ _ st (by rw [hx])
theorem l14Places_ok {w : World} (a b : Sl) {lv : Nat} (h1 : 1 ≤ lv) (h2 : lv ≤ 3) : Calls Try.prog 28 #[.agg #[Sl.v a, Sl.v b, .int .i64 lv]] w fun e w' => e = .returned (.int .i64 ((4 ^ (lv - 1) : Nat) : Int)) ∧ Below w.heap.size w w' := by
  refine run_pure (fun R => f28_spec_l14Places.ok R a b lv w) fun R hR w1 N1 st => ?_
  unfold f28_spec_l14Places.T
  rw [w64i (by omega) (by omega)]
  refine t_callp st (l14Size_ok (lv := lv + 1) (by omega) (by omega)) fun w2 N2 st => ?_
  have h : lv = 1 ∨ lv = 2 ∨ lv = 3 := by omega
  rcases h with rfl | rfl | rfl <;> exact hR _ _ _ _ st (congrArg (Value.int .i64) (by decide))
/-- a place's digit at a level -/
def dig (at_ lv : Nat) : Nat := at_ / 4 ^ (lv - 2) % 4
theorem digit_ok {w : World} {at_ lv : Nat} (h1 : 2 ≤ lv) (h2 : lv ≤ 3) (h3 : at_ < 4611686018427387904) : Calls Try.prog 52 #[.int .i64 at_, .int .i64 lv] w fun e w' => e = .returned (.int .i64 (dig at_ lv : Int)) ∧ Below w.heap.size w w' := by
  refine run_pure (fun R => f52_impl_digit.ok R at_ lv w) fun R hR w1 N1 st => ?_
  unfold f52_impl_digit.T
  have hb : ∀ n : Nat, n < 4611686018427387904 → bits .and .i64 (n : Int) 3 = ((n % 4 : Nat) : Int) := by
    intro n hn
    have e63 : (2 : Int) ^ 63 = 9223372036854775808 := by decide
    have h := bits_mask .i64 63 (by decide) (fun m h0 h1 => w64i (by omega) (by rw [e63] at h1; omega)) 2 (by decide) (n : Int) (by omega) (by rw [e63]; omega)
    have e : ((2 : Int) ^ 2 - 1) = 3 := by decide
    have e2 : ((2 : Int) ^ 2) = 4 := by decide
    rw [e, e2] at h
    rw [h]
    omega
  have h : lv = 2 ∨ lv = 3 := by omega
  rcases h with rfl | rfl
  · refine t_ass (by decide) (hR _ _ _ _ st ?_)
    have : (at_ : Int) / 2 ^ min (IntKind.i64.wrap (2 * IntKind.i64.wrap ((2 : Nat) - 2))).toNat IntKind.i64.bits = ((at_ / 4 ^ (2 - 2) : Nat) : Int) := by
      rw [show min (IntKind.i64.wrap (2 * IntKind.i64.wrap ((2 : Nat) - 2))).toNat IntKind.i64.bits = 0 by decide]; simp
    rw [this, hb _ (Nat.lt_of_le_of_lt (Nat.div_le_self _ _) h3)]
    rfl
  · refine t_ass (by decide) (hR _ _ _ _ st ?_)
    have : (at_ : Int) / 2 ^ min (IntKind.i64.wrap (2 * IntKind.i64.wrap ((3 : Nat) - 2))).toNat IntKind.i64.bits = ((at_ / 4 ^ (3 - 2) : Nat) : Int) := by
      rw [show min (IntKind.i64.wrap (2 * IntKind.i64.wrap ((3 : Nat) - 2))).toNat IntKind.i64.bits = 2 by decide]; simp
    rw [this, hb _ (Nat.lt_of_le_of_lt (Nat.div_le_self _ _) h3)]
    rfl
end Go.Proofs.Ytboccoihmginiaa

namespace Go.Proofs.Ytboccoihmginiaa
open Go.RowKit Go.Sol
set_option linter.unusedVariables false
set_option linter.unusedSimpArgs false
def noP : PC := ⟨0, ⟨#[]⟩, []⟩
def cellAt (cs : List PC) (k : Int) : PC := cs.getD k.toNat noP
def kidAt (c : PC) (d : Nat) : Int := c.k.getD d (-1)
def leafP (cs : List PC) (a : Nat) : Nat → Int → ByteArray
  | lv + 2, k => if k < 0 then ⟨#[]⟩ else leafP cs a (lv + 1) (kidAt (cellAt cs k) (dig a (lv + 2)))
  | _, k => if k < 0 then ⟨#[]⟩ else (cellAt cs k).l
/-- the way down is there -/
def PathOk (cs : List PC) (a : Nat) : Nat → Int → Prop
  | lv + 2, k => k < cs.length ∧ (0 ≤ k → (cellAt cs k).k.length = 4 ∧ PathOk cs a (lv + 1) (kidAt (cellAt cs k) (dig a (lv + 2))))
  | _, k => k < cs.length
def pcs (gs : List GC) : List PC := gs.map (·.1)
@[simp] theorem pcs_len (gs : List GC) : (pcs gs).length = gs.length := by simp [pcs]
theorem cellAt_pcs {gs : List GC} {i : Nat} (hi : i < gs.length) : cellAt (pcs gs) (i : Int) = gs[i].1 := by simp [cellAt, pcs, hi]
theorem dig_lt (a lv : Nat) : dig a lv < 4 := Nat.mod_lt _ (by omega)
theorem kid_get {c : PC} {d : Nat} (h : d < c.k.length) : c.k[d]? = some (kidAt c d) := by simp [kidAt, h]
theorem leafAt_ok {w : World} {a b : Sl} {gs : List GC} {rs : List Int} {lv root at_ : Nat} (h : RW w a b gs rs) (h1 : 1 ≤ lv) (h2 : lv ≤ 3) (hr : root < rs.length) (ha : at_ < 4611686018427387904) (hp : PathOk (pcs gs) at_ lv rs[root]) :
    Calls Try.prog 25 #[.agg #[Sl.v a, Sl.v b, .int .i64 lv], .int .i64 root, .int .i64 at_] w fun e w' => e = .returned (.string (leafP (pcs gs) at_ lv rs[root])) ∧ Below w.heap.size w w' := by
  have hnb : b.n = rs.length := by simpa using h.r.n1
  have hna := h.c.n
  refine run_pure (fun R => f25_impl_Cow_leafAt.ok R a b lv root at_ w) fun R hR w1 N1 st => ?_
  unfold f25_impl_Cow_leafAt.T
  obtain ⟨bd, hB, hd⟩ := h.r.addr (i := root) (by omega)
  refine t_idx' root hB (by omega) (by omega) (by simp) ?_
  refine t_ldc (x := rs[root]) st (fun w' N' s => s.old0 (hd root _ (ints_at (by simp [hr])))) fun w2 N2 st => ?_
  refine t_loop (fun (m : Nat) (s : Int × Int) => s.2 = (m : Int) ∧ 1 ≤ m ∧ m ≤ lv ∧ leafP (pcs gs) at_ m s.1 = leafP (pcs gs) at_ lv rs[root] ∧ PathOk (pcs gs) at_ m s.1) (fun _ _ => []) (fun m _ => m) lv st ⟨rfl, h1, Nat.le_refl _, rfl, hp⟩ ?_
  rintro m ⟨k, j⟩ w2 N2 next ⟨hj, hm, hml, he, hpk⟩ st hn
  simp only at hj he hpk
  subst hj
  show f25_impl_Cow_leafAt.L1 R a at_ k (m : Int) _ w2 N2
  unfold f25_impl_Cow_leafAt.L1
  have down : ∀ {w2 N2}, Stt w [] [] w2 N2 → 0 ≤ k → 1 < m → T.idx a k 3 (fun (p43 : Addr) => T.ldc (p43.add 2) Sl.v fun (x44 : Sl) => T.callq Try.prog 52 [.int .i64 (at_ : Int), .int .i64 (m : Int)] (Value.int .i64) fun (y46 : Int) => T.idx x44 y46 1 fun (p48 : Addr) => T.ldc p48 (Value.int .i64) fun (x49 : Int) => next (x49, IntKind.i64.wrap ((m : Int) - 1))) w2 N2 := by
    intro w2 N2 st hk0 hm1
    obtain ⟨m, rfl⟩ : ∃ q, m = q + 2 := ⟨m - 2, by omega⟩
    obtain ⟨i, rfl⟩ : ∃ i : Nat, k = (i : Int) := ⟨k.toNat, by omega⟩
    obtain ⟨hkl, hpk⟩ := hpk
    have hil : i < gs.length := by simp at hkl; omega
    obtain ⟨h4, hpk⟩ := hpk (by omega)
    rw [cellAt_pcs hil] at h4 hpk
    rw [leafP, if_neg (by omega), cellAt_pcs hil] at he
    obtain ⟨ad, hA, _, c0, c1, c2, hrd⟩ := h.c.at hil
    refine t_idx' (i * 3) hA (by omega) (by omega) (by simp) ?_
    refine t_ldc st (fun w' N' s => s.old0 c2) fun w2 N2 st => ?_
    refine t_callq st (fun w' N' s => digit_ok (by omega) (by omega) ha) fun w2 N2 st => ?_
    have hdl := dig_lt at_ (m + 2)
    have hn4 : gs[i].2.n = 4 := by have := hrd.n1; simp at this; omega
    obtain ⟨kd, hK, hkc⟩ := hrd.addr (i := dig at_ (m + 2)) (by omega)
    refine t_idx' (dig at_ (m + 2)) hK (by omega) (by omega) (by simp) ?_
    refine t_ldc (x := kidAt gs[i].1 (dig at_ (m + 2))) st (fun w' N' s => s.old0 (hkc _ _ (ints_at (kid_get (by omega))))) fun w2 N2 st => ?_
    rw [w64i (by omega) (by omega)]
    exact hn (m + 1) _ _ _ ⟨by simp only; omega, by omega, by omega, he, hpk⟩ (by omega) st
  have last : ∀ {w2 N2}, Stt w [] [] w2 N2 → (k < 0 ∨ m = 1) → T.ite (decide (k < 0)) (T.ret R (.string (⟨#[]⟩ : ByteArray))) (T.idx a k 3 fun (p65 : Addr) => T.ldc (p65.add 1) Value.string fun (x66 : ByteArray) => T.ret R (.string x66)) w2 N2 := by
    intro w2 N2 st hkm
    refine t_ite (fun h => ?_) (fun h3 => ?_)
    · have hk : k < 0 := by simpa using h
      have : leafP (pcs gs) at_ m k = ⟨#[]⟩ := by
        obtain ⟨m, rfl⟩ : ∃ q, m = q + 1 := ⟨m - 1, by omega⟩
        cases m <;> simp [leafP, hk]
      exact hR _ _ _ _ st (by rw [← he, this])
    · have hk : 0 ≤ k := by simpa using h3
      obtain rfl : m = 1 := hkm.resolve_left (by omega)
      obtain ⟨i, rfl⟩ : ∃ i : Nat, k = (i : Int) := ⟨k.toNat, by omega⟩
      have hil : i < gs.length := by simp [PathOk] at hpk; omega
      rw [leafP, if_neg (by omega), cellAt_pcs hil] at he
      · obtain ⟨ad, hA, _, c0, c1, c2, hrd⟩ := h.c.at hil
        refine t_idx' (i * 3) hA (by omega) (by omega) (by simp) ?_
        refine t_ldc st (fun w' N' s => s.old0 c1) fun w2 N2 st => ?_
        exact hR _ _ _ _ st (by rw [he])
      · intro lv; omega
  unfold f25_impl_Cow_leafAt.J2
  refine t_ite (fun h3 => ?_) (fun h3 => ?_)
  · have hk0 : 0 ≤ k := by simpa using h3
    refine t_ite (fun h4 => ?_) (fun h4 => ?_)
    · exact down st hk0 (by simp at h4; omega)
    · exact last st (.inr (by simp at h4; omega))
  · exact t_itef rfl (last st (.inl (by simp at h3; omega)))
theorem l14Leaf_ok {w : World} {a b : Sl} {gs : List GC} {rs : List Int} {lv at_ : Nat} {k0 : Int} (h : RW w a b gs rs) (h1 : 1 ≤ lv) (h2 : lv ≤ 3) (ha : at_ < 4 ^ (lv - 1)) (hp : PathOk (pcs gs) at_ lv k0) :
    Calls Try.prog 29 #[.agg #[Sl.v a, Sl.v b, .int .i64 lv], .int .i64 k0, .int .i64 at_] w fun e w' => e = .returned (.string (leafP (pcs gs) at_ lv k0)) ∧ Below w.heap.size w w' := by
  have hna := h.c.n
  have hp4 : ∀ m, m ≤ 3 → 4 ^ m ≤ 64 := fun m hm => Nat.pow_le_pow_right (show 0 < 4 by omega) hm
  refine run_pure (fun R => f29_spec_l14Leaf.ok R a b lv k0 at_ w) fun R hR w1 N1 st => ?_
  unfold f29_spec_l14Leaf.T
  refine t_loop (fun (m : Nat) (s : Int × Int × Int) => s.2.2 = (m : Int) ∧ s.2.1 = ((at_ % 4 ^ (m - 1) : Nat) : Int) ∧ 1 ≤ m ∧ m ≤ lv ∧ leafP (pcs gs) at_ m s.1 = leafP (pcs gs) at_ lv k0 ∧ PathOk (pcs gs) at_ m s.1) (fun _ _ => []) (fun m _ => m) lv st ⟨rfl, by simp only; rw [Nat.mod_eq_of_lt ha], h1, Nat.le_refl _, rfl, hp⟩ ?_
  rintro m ⟨k, x, j⟩ w2 N2 next ⟨hj, hx, hm, hml, he, hpk⟩ st hn
  simp only at hj he hpk hx
  subst hj hx
  show f29_spec_l14Leaf.L1 R a k _ (m : Int) _ w2 N2
  unfold f29_spec_l14Leaf.L1
  unfold f29_spec_l14Leaf.J2
  refine t_ite (fun h3 => ?_) (fun h3 => ?_)
  · have hk0 : 0 ≤ k := by simpa using h3
    obtain ⟨i, rfl⟩ : ∃ i : Nat, k = (i : Int) := ⟨k.toNat, by omega⟩
    refine t_ite (fun h4 => ?_) (fun h4 => ?_)
    · have hm1 : 1 < m := by simp at h4; omega
      obtain ⟨m, rfl⟩ : ∃ q, m = q + 2 := ⟨m - 2, by omega⟩
      obtain ⟨hkl, hpk⟩ := hpk
      have hil : i < gs.length := by simp at hkl; omega
      obtain ⟨h4', hpk⟩ := hpk (by omega)
      rw [cellAt_pcs hil] at h4' hpk
      rw [leafP, if_neg (by omega), cellAt_pcs hil] at he
      obtain ⟨ad, hA, _, c0, c1, c2, hrd⟩ := h.c.at hil
      refine t_callp st (l14Size_ok (lv := m + 2) (by omega) (by omega)) fun w2 N2 st => ?_
      refine t_idx' (i * 3) hA (by omega) (by omega) (by simp) ?_
      refine t_ldc st (fun w' N' s => s.old0 c2) fun w2 N2 st => ?_
      have hpm := hp4 m (by omega)
      have hpos : 0 < 4 ^ m := Nat.pow_pos (by omega)
      have hq : IntKind.i64.wrap (((4 ^ (m + 2 - 1) : Nat) : Int).tdiv 4) = ((4 ^ m : Nat) : Int) := by
        have : ((4 ^ (m + 2 - 1) : Nat) : Int).tdiv 4 = ((4 ^ m : Nat) : Int) := by
          rw [show m + 2 - 1 = m + 1 by omega, Nat.pow_succ, Int.tdiv_eq_ediv_of_nonneg (by omega)]
          omega
        rw [this, w64i (by omega) (by omega)]
      rw [hq]
      have hdg : (at_ % 4 ^ (m + 2 - 1)) / 4 ^ m = dig at_ (m + 2) := by
        rw [show m + 2 - 1 = m + 1 by omega, Nat.pow_succ, Nat.mod_mul_right_div_self]; rfl
      have hdl := dig_lt at_ (m + 2)
      have hd2 : IntKind.i64.wrap (((at_ % 4 ^ (m + 2 - 1) : Nat) : Int).tdiv ((4 ^ m : Nat) : Int)) = (dig at_ (m + 2) : Int) := by
        rw [Int.tdiv_eq_ediv_of_nonneg (by omega), ← Int.natCast_ediv, hdg, w64i (by omega) (by omega)]
      rw [hd2]
      have hne : ((4 ^ m : Nat) : Int) ≠ 0 := by omega
      refine t_ass hne ?_
      have hn4 : gs[i].2.n = 4 := by have := hrd.n1; simp at this; omega
      obtain ⟨kd, hK, hkc⟩ := hrd.addr (i := dig at_ (m + 2)) (by omega)
      refine t_idx' (dig at_ (m + 2)) hK (by omega) (by omega) (by simp) ?_
      refine t_ldc (x := kidAt gs[i].1 (dig at_ (m + 2))) st (fun w' N' s => s.old0 (hkc _ _ (ints_at (kid_get (by omega))))) fun w2 N2 st => ?_
      refine t_ass hne ?_
      have hmod : ((at_ % 4 ^ (m + 2 - 1) : Nat) : Int).tmod ((4 ^ m : Nat) : Int) = ((at_ % 4 ^ m : Nat) : Int) := by
        rw [Int.tmod_eq_emod_of_nonneg (by omega), ← Int.natCast_emod, show m + 2 - 1 = m + 1 by omega, Nat.pow_succ, Nat.mod_mul_right_mod]
      rw [hmod, w64i (by omega) (by omega)]
      exact hn (m + 1) _ _ _ ⟨by simp only; omega, by simp, by omega, by omega, he, hpk⟩ (by omega) st
    · obtain rfl : m = 1 := by simp at h4; omega
      refine t_itef (by simp) ?_
      have hil : i < gs.length := by simp [PathOk] at hpk; omega
      rw [leafP, if_neg (by omega), cellAt_pcs hil] at he
      · obtain ⟨ad, hA, _, c0, c1, c2, hrd⟩ := h.c.at hil
        refine t_idx' (i * 3) hA (by omega) (by omega) (by simp) ?_
        refine t_ldc st (fun w' N' s => s.old0 c1) fun w2 N2 st => ?_
        exact hR _ _ _ _ st (by rw [he])
      · intro lv; omega
  · have hk : k < 0 := by simp at h3; omega
    refine t_itef rfl (t_itet (by simpa using hk) ?_)
    have : leafP (pcs gs) at_ m k = ⟨#[]⟩ := by
      obtain ⟨m, rfl⟩ : ∃ q, m = q + 1 := ⟨m - 1, by omega⟩
      cases m <;> simp [leafP, hk]
    exact hR _ _ _ _ st (by rw [← he, this])
end Go.Proofs.Ytboccoihmginiaa

namespace Go.Proofs.Ytboccoihmginiaa
open Go.RowKit Go.Sol
set_option linter.unusedVariables false
set_option linter.unusedSimpArgs false
def maxF (m : Int) (xs : List Int) : Int := xs.foldl (fun m x => if m < x then x else m) m
def maxI : List Int → Int
  | [] => 0
  | x :: xs => maxF x xs
theorem Max_ok {w : World} {a : Sl} {xs : List Int} (ha : Rd w 1 a (ints xs)) (h0 : 0 < xs.length) :
    Calls Try.prog 54 #[Sl.v a] w fun e w' => e = .returned (.int .i64 (maxI xs)) ∧ Below w.heap.size w w' := by
  have hna : a.n = xs.length := by simpa using ha.n1
  obtain ⟨x0, xs, rfl⟩ : ∃ x l, xs = x :: l := by
    cases xs with
    | nil => simp at h0
    | cons x l => exact ⟨x, l, rfl⟩
  simp only [List.length_cons] at hna h0
  refine run_pure (fun R => f54_slices_Max_int_int.ok R a w) fun R hR w1 N1 st => ?_
  unfold f54_slices_Max_int_int.T f54_slices_Max_int_int.J1
  refine t_itef (decide_eq_false (by omega)) ?_
  obtain ⟨ad, hA, hc⟩ := ha.addr (i := 0) (by omega)
  refine t_idx' 0 hA (by omega) (by omega) (by simp) ?_
  refine t_ldc (x := x0) st (fun w' N' s => s.old0 (hc 0 _ rfl)) fun w2 N2 st => ?_
  refine t_loop (fun (i : Nat) (s : Int × Int) => s.2 = ((i + 1 : Nat) : Int) ∧ i ≤ xs.length ∧ maxF s.1 (xs.drop i) = maxF x0 xs) (fun _ _ => []) (fun i _ => xs.length - i) 0 st ⟨rfl, Nat.zero_le _, rfl⟩ ?_
  rintro i ⟨m, j⟩ w2 N2 next ⟨hj, hi, he⟩ st hn
  simp only at hj he
  subst hj
  show f54_slices_Max_int_int.L2 R a m _ _ w2 N2
  unfold f54_slices_Max_int_int.L2
  refine t_ite (fun h1 => ?_) (fun h1 => ?_)
  · have hil : i < xs.length := by simp [hna] at h1; omega
    refine t_idx' (i + 1) hA (by omega) (by omega) (by simp) ?_
    refine t_ldc (x := xs[i]) st (fun w' N' s => s.old0 (hc (i + 1) _ (ints_at (by simp [hil])))) fun w2 N2 st => ?_
    show next _ _ _
    rw [w64s (i := i + 1) (by have := ha.2.1; simp only [maxLen] at *; omega)]
    refine hn (i + 1) _ _ _ ⟨rfl, hil, ?_⟩ (by omega) st
    rw [List.drop_eq_getElem_cons hil] at he
    exact he
  · have hil : i = xs.length := by simp [hna] at h1; omega
    subst hil
    rw [List.drop_length] at he
    exact hR _ _ _ _ st (by rw [maxI, ← he]; rfl)
theorem Clone_ok {w : World} {a : Sl} {xs : List Int} (ha : Rd w 1 a (ints xs)) (hl : xs.length ≤ 1048576) :
    Calls Try.prog 51 #[Sl.v a] w fun e w' => ∃ (y : Sl) (cs1 : List Ch), e = .returned (Sl.v y) ∧ (y.n = xs.length ∧ cs1 = [⟨3, 1, y, ints xs⟩]) ∧ Res w [] w' cs1 := by
  have hna : a.n = xs.length := by simpa using ha.n1
  refine run_ok (fun R => f51_slices_Clone_int_int.ok R a w) [] (Own.nil w NO) Sl.v (fun y cs1 => y.n = xs.length ∧ cs1 = [⟨3, 1, y, ints xs⟩]) fun R hR w1 N1 st => ?_
  unfold f51_slices_Clone_int_int.T
  refine t_ite (fun h => ?_) (fun h => ?_)
  · have hn0 : a.n = 0 := by
      rcases ha.2.2 with h0 | ⟨ad, hA, _⟩
      · exact h0
      · simp [hA] at h
    have hx : xs = [] := List.eq_nil_of_length_eq_zero (by omega)
    subst hx
    exact hR Sl.nil _ _ _ _ (st.triv 3 1 Sl.nil rfl rfl) ⟨rfl, rfl⟩ rfl
  · refine t_new 1 0 rfl (by decide) st fun g w2 N2 st => ?_
    refine t_app τ24 (i := 0) (xs := []) st rfl (st.rd0 ha) (ints_one xs) (by simp only; omega) fun y w2 N2 hy st => ?_
    exact hR y _ _ _ _ st ⟨by rw [hy]; simp only; omega, by simp⟩ rfl
/-- the header of a state -/
def hdrCh (g : Nat) (a b : Sl) (lv : Int) : Ch := ⟨26, 3, ⟨some ⟨g, 0, none⟩, 1, 1⟩, [Sl.v a, Sl.v b, .int .i64 lv]⟩
theorem ownCow_ok {w : World} {a b : Sl} {gs : List GC} {rs : List Int} {lv : Int} (h : RW w a b gs rs) (hg : gs.length ≤ 1048576) (hr : rs.length ≤ 1048576) (hk : ∀ g ∈ gs, g.1.k.length ≤ 1048576) :
    Calls Try.prog 24 #[.agg #[Sl.v a, Sl.v b, .int .i64 lv]] w fun e w' => ∃ (y : Option Addr) (cs1 : List Ch), e = .returned (.pointer y) ∧
      (∃ g a' b' gs', y = some ⟨g, 0, none⟩ ∧ pcs gs' = pcs gs ∧ cs1 = hdrCh g a' b' lv :: cowO a' b' gs' rs) ∧ Res w [] w' cs1 := by
  have hna := h.c.n
  refine run_ok (fun R => f24_impl_ownCow.ok R a b lv w) [] (Own.nil w NO) Value.pointer (fun y cs1 => ∃ g a' b' gs', y = some ⟨g, 0, none⟩ ∧ pcs gs' = pcs gs ∧ cs1 = hdrCh g a' b' lv :: cowO a' b' gs' rs) fun R hR w1 N1 st => ?_
  unfold f24_impl_ownCow.T
  refine t_call (cs := []) (rest := []) st (fun _ => Clone_ok (st.rd0 h.r) hr) fun b' cs1 w2 N2 hp st => ?_
  obtain ⟨_, rfl⟩ := hp
  refine t_new 3 1 rfl (by decide) st fun g w2 N2 st => ?_
  replace st := (st.triv 70 3 Sl.nil rfl rfl)
  refine t_loop (fun (p : Sl × List GC) (s : Int) => s = (p.2.length : Int) ∧ p.1.n = p.2.length ∧ p.2.length ≤ gs.length ∧ pcs p.2 = (pcs gs).take p.2.length) (fun p _ => hdrCh g p.1 b' lv :: ⟨70, 3, p.1, cellsV p.2⟩ :: ⟨3, 1, b', ints rs⟩ :: kidCh p.2) (fun p _ => gs.length - p.2.length) (Sl.nil, []) (st.perm (List.Perm.swap _ _ _)) ⟨rfl, rfl, Nat.zero_le _, by simp [pcs]⟩ ?_
  rintro ⟨s, D⟩ j w2 N2 next ⟨rfl, hs, hi, he⟩ st hn
  simp only at hs hi he st hn ⊢
  show f24_impl_ownCow.L1 R a g (D.length : Int) _ w2 N2
  unfold f24_impl_ownCow.L1
  refine t_ite (fun h1 => ?_) (fun h1 => ?_)
  · have hil : D.length < gs.length := by simp [hna] at h1; exact h1
    obtain ⟨ad, hA, _, c0, c1, c2, hrd⟩ := h.c.at hil
    refine t_idx' (D.length * 3) hA (by omega) (by omega) (by simp) ?_
    refine t_ldc st (fun w' N' s => s.old0 c0) fun w2 N2 st => ?_
    refine t_ldc st (fun w' N' s => s.old0 c1) fun w2 N2 st => ?_
    refine t_ldc st (fun w' N' s => s.old0 c2) fun w2 N2 st => ?_
    refine t_call (cs := []) st (fun _ => Clone_ok (st.rd0 hrd) (hk _ (List.getElem_mem hil))) fun y cs1 w2 N2 hp st => ?_
    obtain ⟨_, rfl⟩ := hp
    refine t_ldc (x := s) st (fun w' N' st => st.cell (i := 1) (c := hdrCh g s b' lv) rfl rfl (j := 0) rfl) fun w2 N2 st => ?_
    refine t_new 3 1 rfl (by decide) st fun g2 w2 N2 st => ?_
    refine t_chk st (fun w' N' st => st.cell (i := 2) (c := hdrCh g s b' lv) rfl rfl (j := 0) rfl) fun w2 N2 st => ?_
    have hsrc := (st.ch (i := 0) rfl).rd
    refine t_app τ23 (i := 3) (xs := cellsV D) st rfl hsrc (by intro u hu; simp at hu; rcases hu with rfl | rfl | rfl <;> rfl) (by simp only; omega) fun s' w2 N2 hs' st => ?_
    refine t_stc (i := 2) (j := 0) (c := hdrCh g s b' lv) st rfl rfl (by simp [hdrCh]) rfl fun w2 N2 st => ?_
    show next _ _ _
    rw [w64s (by simp only [maxLen]; omega)]
    refine hn (s', D ++ [(gs[D.length].1, y)]) _ _ _ ⟨by simp, by simp only at hs' ⊢; simp; omega, by simp; omega, ?_⟩ (by simp; omega) ((st.sub (List.sublist_cons_self _ _)).perm ?_)
    · simp only [pcs, List.map_append, List.map_cons, List.map_nil, List.length_append, List.length_singleton] at he ⊢
      rw [List.take_succ_eq_append_getElem (by simpa using hil), ← he]
      simp
    · simp only [hdrCh, List.cons_append, List.nil_append, List.set_cons_succ, List.set_cons_zero, kidCh, List.map_append, List.map_cons, List.map_nil, cellsV_app, cellsV]
      exact ((List.Perm.cons _ (List.Perm.cons _ (List.Perm.cons _ (List.perm_append_singleton _ _)))).trans
        ((List.Perm.cons _ (List.Perm.cons _ (List.Perm.swap _ _ _))).trans ((List.Perm.cons _ (List.Perm.swap _ _ _)).trans (List.Perm.swap _ _ _))))
  · have hil : D.length = gs.length := by simp [hna] at h1; omega
    refine hR _ _ _ _ _ (st.perm ?_) ⟨g, s, b', D, rfl, by rw [he, hil]; exact List.take_of_length_le (by simp), rfl⟩ rfl
    simp only [cowO, cowCh, List.cons_append]
    exact List.Perm.cons _ (List.Perm.cons _ (List.perm_append_singleton _ _))
theorem l14Own_ok {w : World} {a b : Sl} {gs : List GC} {rs : List Int} {lv : Int} (h : RW w a b gs rs) (hg : gs.length ≤ 1048576) (hr : rs.length ≤ 1048576) (hk : ∀ g ∈ gs, g.1.k.length ≤ 1048576) :
    Calls Try.prog 30 #[.agg #[Sl.v a, Sl.v b, .int .i64 lv]] w fun e w' => ∃ (y : Sl × Sl × Int) (cs1 : List Ch), e = .returned (.agg #[Sl.v y.1, Sl.v y.2.1, .int .i64 y.2.2]) ∧
      (∃ gs', y.2.2 = lv ∧ pcs gs' = pcs gs ∧ y.2.1.n = rs.length ∧ cs1 = cowO y.1 y.2.1 gs' rs) ∧ Res w [] w' cs1 := by
  have hna := h.c.n
  have hnb : b.n = rs.length := by simpa using h.r.n1
  refine run_ok (fun R => f30_spec_l14Own.ok R a b lv w) [] (Own.nil w NO) (fun (y : Sl × Sl × Int) => .agg #[Sl.v y.1, Sl.v y.2.1, .int .i64 y.2.2]) (fun y cs1 => ∃ gs', y.2.2 = lv ∧ pcs gs' = pcs gs ∧ y.2.1.n = rs.length ∧ cs1 = cowO y.1 y.2.1 gs' rs) fun R hR w1 N1 st => ?_
  unfold f30_spec_l14Own.T
  replace st := (st.triv 70 3 Sl.nil rfl rfl)
  refine t_loop (fun (D : List GC) (s : Sl × Int) => s.2 = (D.length : Int) ∧ s.1.n = D.length ∧ D.length ≤ gs.length ∧ pcs D = (pcs gs).take D.length) (fun D s => ⟨70, 3, s.1, cellsV D⟩ :: kidCh D) (fun D _ => gs.length - D.length) [] st ⟨rfl, rfl, Nat.zero_le _, by simp [pcs]⟩ ?_
  rintro D ⟨s, j⟩ w2 N2 next ⟨hj, hs, hi, he⟩ st hn
  simp only at hj hs hi he st hn ⊢
  subst hj
  show f30_spec_l14Own.L1 R a b lv s (D.length : Int) _ w2 N2
  unfold f30_spec_l14Own.L1
  refine t_ite (fun h1 => ?_) (fun h1 => ?_)
  · have hil : D.length < gs.length := by simp [hna] at h1; exact h1
    obtain ⟨ad, hA, _, c0, c1, c2, hrd⟩ := h.c.at hil
    have hkl := hk _ (List.getElem_mem hil)
    have hkn : gs[D.length].2.n = gs[D.length].1.k.length := by simpa using hrd.n1
    refine t_idx' (D.length * 3) hA (by omega) (by omega) (by simp) ?_
    refine t_ldc st (fun w' N' s => s.old0 c0) fun w2 N2 st => ?_
    refine t_ldc st (fun w' N' s => s.old0 c1) fun w2 N2 st => ?_
    refine t_ldc st (fun w' N' s => s.old0 c2) fun w2 N2 st => ?_
    refine t_new 1 0 rfl (by decide) st fun g1 w2 N2 st => ?_
    refine t_app τ24 (i := 0) (xs := []) st rfl (st.rd0 hrd) (ints_one _) (by simp only; omega) fun y w2 N2 hy st => ?_
    refine t_new 3 1 rfl (by decide) st fun g2 w2 N2 st => ?_
    have hsrc := (st.ch (i := 0) rfl).rd
    refine t_app τ23 (i := 2) (xs := cellsV D) st rfl hsrc (by intro u hu; simp at hu; rcases hu with rfl | rfl | rfl <;> rfl) (by simp only; omega) fun s' w2 N2 hs' st => ?_
    show next _ _ _
    rw [w64s (by simp only [maxLen]; omega)]
    refine hn (D ++ [(gs[D.length].1, y)]) _ _ _ ⟨by simp, by simp only at hs' ⊢; simp; omega, by simp; omega, ?_⟩ (by simp; omega) ((st.sub (List.sublist_cons_self _ _)).perm ?_)
    · simp only [pcs, List.map_append, List.map_cons, List.map_nil, List.length_append, List.length_singleton] at he ⊢
      rw [List.take_succ_eq_append_getElem (by simpa using hil), ← he]
      simp
    · simp only [List.nil_append, List.set_cons_succ, List.set_cons_zero, kidCh, List.map_append, List.map_cons, List.map_nil, cellsV_app, cellsV]
      exact (List.Perm.cons _ (List.perm_append_singleton _ _)).trans (List.Perm.swap _ _ _)
  · have hil : D.length = gs.length := by simp [hna] at h1; omega
    refine t_new 1 0 rfl (by decide) st fun g1 w2 N2 st => ?_
    refine t_app τ24 (i := 0) (xs := []) st rfl (st.rd0 h.r) (ints_one _) (by simp only; omega) fun y w2 N2 hy st => ?_
    refine hR (s, y, lv) _ _ _ _ (st.perm ?_) ⟨D, rfl, by rw [he, hil]; exact List.take_of_length_le (by simp), by rw [hy]; simp only; omega, rfl⟩ rfl
    simp only [cowO, cowCh, List.set_cons_zero, List.nil_append]
    exact (List.perm_append_singleton _ _)
end Go.Proofs.Ytboccoihmginiaa

namespace Go.Proofs.Ytboccoihmginiaa
open Go.RowKit Go.Sol
set_option linter.unusedVariables false
set_option linter.unusedSimpArgs false
section
variable {w0 w : World} {cs0 rest : List Ch} {N : NP} {a s : Sl} {gs : List GC} {i : Nat} {g : GC} {ad : Addr}
theorem kid_swap (rest : List Ch) (hg : gs[i]? = some g) (g' : GC) : ∃ c, (kidCh gs ++ (⟨3, 1, g'.2, ints g'.1.k⟩ :: rest)).Perm (c :: (kidCh (gs.set i g') ++ rest)) := by
  obtain ⟨hil, _⟩ := List.getElem?_eq_some_iff.1 hg
  have hs := split_at hg
  have hset : gs.set i g' = gs.take i ++ g' :: gs.drop (i + 1) := List.set_eq_take_append_cons_drop.trans (by rw [if_pos hil])
  refine ⟨⟨3, 1, g.2, ints g.1.k⟩, ?_⟩
  have p1 : (kidCh gs).Perm (⟨3, 1, g.2, ints g.1.k⟩ :: kidCh (gs.take i ++ gs.drop (i + 1))) := by
    conv => lhs; rw [hs]
    exact kid_mid _ _ _
  have p2 : (kidCh (gs.set i g')).Perm (⟨3, 1, g'.2, ints g'.1.k⟩ :: kidCh (gs.take i ++ gs.drop (i + 1))) := by
    rw [hset]; exact kid_mid _ _ _
  refine (List.Perm.append_right _ p1).trans ?_
  rw [List.cons_append]
  refine List.Perm.cons _ ?_
  refine List.perm_middle.trans ?_
  rw [← List.cons_append]
  exact List.Perm.append_right _ p2.symm
theorem t_setc {n : Int} {l : ByteArray} {k : List Int} {K : Tm} (st : Stt w0 cs0 (cowCh a gs ++ (⟨3, 1, s, ints k⟩ :: rest)) w N) (hA : a.A = some ad) (hg : gs[i]? = some g)
    (k1 : ∀ w' N', Stt w0 cs0 (cowCh a (gs.set i (⟨n, l, k⟩, s)) ++ rest) w' N' → K w' N') :
    T.stc ((ad.add (i * 3)).add 0) (.int .i64 n) (T.stc ((ad.add (i * 3)).add 1) (.string l) (T.stc ((ad.add (i * 3)).add 2) (Sl.v s) K)) w N := by
  obtain ⟨hil, _⟩ := List.getElem?_eq_some_iff.1 hg
  refine t_c0 st hA hg fun w N st => ?_
  replace st : Stt w0 cs0 (cowCh a (gs.set i (((⟨n, g.1.l, g.1.k⟩ : PC), g.2) : GC)) ++ (⟨3, 1, s, ints k⟩ :: rest)) w N := st
  refine t_c1 (g := (((⟨n, g.1.l, g.1.k⟩ : PC), g.2) : GC)) st hA (List.getElem?_set_self hil) fun w N st => ?_
  replace st : Stt w0 cs0 (cowCh a ((gs.set i (((⟨n, g.1.l, g.1.k⟩ : PC), g.2) : GC)).set i (((⟨n, l, g.1.k⟩ : PC), g.2) : GC)) ++ (⟨3, 1, s, ints k⟩ :: rest)) w N := st
  rw [List.set_set] at st
  refine t_c2 (k := k) (g := (((⟨n, l, g.1.k⟩ : PC), g.2) : GC)) st hA (List.getElem?_set_self hil) fun w N st => k1 w N ?_
  replace st : Stt w0 cs0 (⟨70, 3, a, cellsV ((gs.set i (((⟨n, l, g.1.k⟩ : PC), g.2) : GC)).set i (((⟨n, l, k⟩ : PC), s) : GC))⟩ :: kidCh (gs.set i (((⟨n, l, g.1.k⟩ : PC), g.2) : GC)) ++ (⟨3, 1, s, ints k⟩ :: rest)) w N := st
  rw [List.set_set, kidCh_set (g' := (((⟨n, l, g.1.k⟩ : PC), g.2) : GC)) hg rfl rfl] at st
  obtain ⟨c, hp⟩ := kid_swap rest hg (((⟨n, l, k⟩ : PC), s) : GC)
  simp only [cowCh, List.cons_append] at st ⊢
  exact (st.perm (List.Perm.cons _ hp.symm)).sub (List.Sublist.cons_cons _ (List.sublist_cons_self _ _))
/-- a row among others -/
theorem t_stcm {l1 l2 : List Ch} {c : Ch} {ad a : Addr} {v : Value} {K : Tm} {j : Nat} (st : Stt w0 cs0 (l1 ++ c :: l2) w N) (hA : c.s.A = some ad) (hj : j < c.xs.length) (ha : a = ad.add j)
    (k1 : ∀ w' N', Stt w0 cs0 (l1 ++ { c with xs := c.xs.set j v } :: l2) w' N' → K w' N') : T.stc a v K w N := by
  refine t_stc (i := l1.length) (j := j) (c := c) st (by rw [List.getElem?_append_right (Nat.le_refl _), Nat.sub_self]; rfl) hA hj ha fun w N st => k1 w N (st.eq ?_)
  rw [List.set_append_right _ _ (Nat.le_refl _), Nat.sub_self, List.set_cons_zero]
theorem cellm {cs : List Ch} {c : Ch} {ad : Addr} {v : Value} {j : Nat} (st : Stt w0 cs0 cs w N) (hc : c ∈ cs) (hA : c.s.A = some ad) (hj : c.xs[j]? = some v) : w.cell? (ad.add j) = some v := (st.own.ok c hc).cell hA hj
end
def freeIx (cs : List PC) : Nat := cs.findIdx fun c => c.n == 0
theorem create1_ok {w : World} {n : Int} {l : ByteArray} {s : Sl} : Calls Try.prog 69 #[.agg #[.int .i64 n, .string l, Sl.v s]] w fun e w' => e = .returned (.bool (n == 0)) ∧ Below w.heap.size w w' := by
  refine run_pure (fun R => f69_impl_Cow_create_1.ok R n l s w) fun R hR w1 N1 st => ?_
  unfold f69_impl_Cow_create_1.T
  exact hR _ _ _ _ st rfl
theorem ca69' (vs : Array Value) (w : World) : (callFunc 69 vs).run Try.prog w = .ok (.enter 69 vs) w := by kernel_rfl
theorem t_callfp {α : Type} {P : Program} {w0 w : World} {cs0 cs : List Ch} {N : NP} {g : Fv} {args : List Value} {dec : α → Value} {k : α → Tm} {x : α} (h : Stt w0 cs0 cs w N) (hca : ∀ w, (callFunc g.f (args.toArray ++ g.cs)).run P w = .ok (.enter g.f (args.toArray ++ g.cs)) w)
    (hC : Calls P g.f (args.toArray ++ g.cs) w fun e w' => e = .returned (dec x) ∧ Below w.heap.size w w')
    (k1 : ∀ w' N', Stt w0 cs0 cs w' N' → k x w' N') : T.callf P g args dec k w N := by
  refine ⟨hca, hC.mono ?_⟩
  rintro e w2 ⟨rfl, hb⟩
  refine ⟨x, rfl, Qt.of_below hb, fun w' N' hz => k1 w' N' ((h.nz ⟨hb.os, hb.tape, hb.output, hb.size, fun b hb' _ => hb.block b hb', fun b hb' => .inl hb'.1⟩).nz hz)⟩
theorem findCell_ok {w : World} {a : Sl} {gs : List GC} (ha : RC w a gs) : Calls Try.prog 68 #[Sl.v a, .func (.func 69) #[] #[]] w fun e w' => e = .returned (.int .i64 (if freeIx (pcs gs) < gs.length then (freeIx (pcs gs) : Int) else -1)) ∧ Below w.heap.size w w' := by
  have hn := ha.n
  refine run_pure (fun R => f68_slices_IndexFunc_impl_Cell_impl_Cell.ok R a ⟨69, #[]⟩ w) fun R hR w1 N1 st => ?_
  unfold f68_slices_IndexFunc_impl_Cell_impl_Cell.T
  refine t_loop (fun (i : Nat) (s : Int) => s = (i : Int) ∧ i ≤ gs.length ∧ ∀ j (hj : j < gs.length), j < i → gs[j].1.n ≠ 0) (fun _ _ => []) (fun i _ => gs.length - i) 0 st ⟨rfl, Nat.zero_le _, fun j _ h => by omega⟩ ?_
  rintro i s w2 N2 next ⟨rfl, hi, he⟩ st hn2
  show f68_slices_IndexFunc_impl_Cell_impl_Cell.L1 R a _ (i : Int) _ w2 N2
  unfold f68_slices_IndexFunc_impl_Cell_impl_Cell.L1
  refine t_ite (fun h1 => ?_) (fun h1 => ?_)
  · have hil : i < gs.length := by simp [hn] at h1; exact h1
    obtain ⟨ad, hA, _, c0, c1, c2, hrd⟩ := ha.at hil
    refine t_idx' (i * 3) hA (by omega) (by omega) (by simp) ?_
    refine t_ldc st (fun w' N' s => s.old0 c0) fun w2 N2 st => ?_
    refine t_ldc st (fun w' N' s => s.old0 c1) fun w2 N2 st => ?_
    refine t_ldc st (fun w' N' s => s.old0 c2) fun w2 N2 st => ?_
    refine t_callfp (x := (gs[i].1.n == 0)) st (fun w => ca69' _ w) create1_ok fun w2 N2 st => ?_
    refine t_ite (fun h2 => ?_) (fun h2 => ?_)
    · have : freeIx (pcs gs) = i := by
        unfold freeIx pcs
        rw [List.findIdx_map]
        refine (List.findIdx_eq hil).2 ⟨h2, fun j hj => ?_⟩
        have := he j (by omega) hj
        simpa using this
      exact hR _ _ _ _ st (by rw [this, if_pos hil])
    · show next _ _ _
      rw [w64s (by have := ha.hd.2.1; omega)]
      refine hn2 (i + 1) _ _ _ ⟨rfl, hil, fun j hj hji => ?_⟩ (by omega) st
      rcases Nat.lt_succ_iff_lt_or_eq.1 hji with h | h
      · exact he j hj h
      · subst h; simpa using h2
  · have hil : i = gs.length := by simp [hn] at h1; omega
    subst hil
    have : ¬ freeIx (pcs gs) < gs.length := by
      intro hlt
      have h3 : freeIx (pcs gs) < (pcs gs).length := by simpa using hlt
      have := List.findIdx_getElem (w := h3)
      have h4 := he (freeIx (pcs gs)) hlt hlt
      simp only [pcs, List.getElem_map, beq_iff_eq] at this
      exact h4 this
    exact hR _ _ _ _ st (by rw [if_neg this])
/-- a cell at a place, or behind the last -/
def putAt {α : Type} (cs : List α) (k : Nat) (c : α) : List α := if k < cs.length then cs.set k c else cs ++ [c]
theorem pcs_putAt (gs : List GC) (k : Nat) (g : GC) : pcs (putAt gs k g) = putAt (pcs gs) k g.1 := by
  unfold putAt pcs
  split <;> rename_i h
  · rw [if_pos (by simpa using h), List.map_set]
  · rw [if_neg (by simpa using h)]; simp
/-- the cell at a place -/
theorem putAt_set {α : Type} {cs : List α} {k : Nat} (h : k < cs.length) (c : α) : putAt cs k c = cs.set k c := by unfold putAt; rw [if_pos h]
theorem putAt_end {α : Type} {cs : List α} {k : Nat} (h : k = cs.length) (c : α) : putAt cs k c = cs ++ [c] := by unfold putAt; rw [if_neg (by omega)]
theorem freeIx_le (cs : List PC) : freeIx cs ≤ cs.length := List.findIdx_le_length
/-- a header beside its cells -/
def hcow (g : Nat) (a b : Sl) (lv : Int) (gs : List GC) : List Ch := cowCh a gs ++ [hdrCh g a b lv]
theorem hdr0 {w0 w : World} {cs0 cs : List Ch} {N : NP} {g : Nat} {a b : Sl} {lv : Int} (st : Stt w0 cs0 cs w N) (hc : hdrCh g a b lv ∈ cs) : w.cell? ((⟨g, 0, none⟩ : Addr).add 0) = some (Sl.v a) := cellm st hc rfl (j := 0) rfl
theorem create_ok {w : World} {g : Nat} {a b s : Sl} {gs : List GC} {k : List Int} {lv n : Int} {l : ByteArray} (o : Own w NO (hcow g a b lv gs ++ [⟨3, 1, s, ints k⟩])) (hg : gs.length ≤ 1048576) :
    Calls Try.prog 64 #[.pointer (some ⟨g, 0, none⟩), .agg #[.int .i64 n, .string l, Sl.v s]] w fun e w' => ∃ (y : Int) (cs1 : List Ch), e = .returned (.int .i64 y) ∧
      (y = (freeIx (pcs gs) : Int) ∧ ∃ a', cs1 = hcow g a' b lv (putAt gs (freeIx (pcs gs)) (⟨1, l, k⟩, s))) ∧ Res w (hcow g a b lv gs ++ [⟨3, 1, s, ints k⟩]) w' cs1 := by
  refine run_ok (fun R => f64_impl_Cow_create.ok R _ n l s w) _ o (.int .i64) (fun y cs1 => y = (freeIx (pcs gs) : Int) ∧ ∃ a', cs1 = hcow g a' b lv (putAt gs (freeIx (pcs gs)) (⟨1, l, k⟩, s))) fun R hR w1 N1 st => ?_
  unfold f64_impl_Cow_create.T
  replace st := st.eq (cs' := cowCh a gs ++ [hdrCh g a b lv, ⟨3, 1, s, ints k⟩]) (by simp [hcow])
  have fin : ∀ {w2 N2} {a' : Sl} {gs' : List GC}, Stt w (hcow g a b lv gs ++ [⟨3, 1, s, ints k⟩]) (cowCh a' gs' ++ [hdrCh g a' b lv, ⟨3, 1, s, ints k⟩]) w2 N2 → freeIx (pcs gs) < gs'.length → gs'.set (freeIx (pcs gs)) (⟨1, l, k⟩, s) = putAt gs (freeIx (pcs gs)) (⟨1, l, k⟩, s) → f64_impl_Cow_create.J1 R (some ⟨g, 0, none⟩) l s (freeIx (pcs gs) : Int) w2 N2 := by
    intro w2 N2 a' gs' st hlt heq
    unfold f64_impl_Cow_create.J1
    refine t_nn rfl ?_
    refine t_ldc (x := a') st (fun w' N' st => hdr0 (b := b) (lv := lv) st (by simp)) fun w2 N2 st => ?_
    obtain ⟨ad, hA, hlt2⟩ := cow_ad st hlt
    refine t_idx' (freeIx (pcs gs) * 3) hA (by omega) hlt2 (by simp) ?_
    refine t_setc (k := k) (g := gs'[freeIx (pcs gs)]) (rest := [hdrCh g a' b lv]) (st.perm (List.Perm.append_left _ (List.Perm.swap _ _ _))) hA (by simp [hlt]) fun w2 N2 st => ?_
    rw [heq] at st
    exact hR _ _ _ _ _ st ⟨rfl, a', rfl⟩ rfl
  refine t_nn rfl ?_
  refine t_ldc (x := a) st (fun w' N' st => hdr0 (b := b) (lv := lv) st (by simp)) fun w2 N2 st => ?_
  refine t_callp st (findCell_ok (cow_rc st)) fun w2 N2 st => ?_
  have hle := freeIx_le (pcs gs)
  rw [pcs_len] at hle
  refine t_ite (fun h => ?_) (fun h => ?_)
  · have hfr : freeIx (pcs gs) = gs.length := by
      rcases Nat.lt_or_ge (freeIx (pcs gs)) gs.length with h2 | h2
      · rw [if_pos h2] at h; simp at h; omega
      · omega
    refine t_nn rfl ?_
    refine t_ldc (x := a) st (fun w' N' st => hdr0 (b := b) (lv := lv) st (by simp)) fun w2 N2 st => ?_
    refine t_nn rfl ?_
    refine t_ldc (x := a) st (fun w' N' st => hdr0 (b := b) (lv := lv) st (by simp)) fun w2 N2 st => ?_
    have hn : a.n = gs.length := (cow_rc st).n
    refine t_new 3 1 rfl (by decide) st fun g2 w2 N2 st => ?_
    have hsrc := (st.ch (i := 0) rfl).rd
    refine t_app τ23 (i := 1) (xs := cellsV gs) st rfl hsrc (by intro u hu; simp at hu; rcases hu with rfl | rfl | rfl <;> rfl) (by simp only; omega) fun s' w2 N2 hs' st => ?_
    refine t_nn rfl ?_
    replace st := st.sub (List.sublist_cons_self _ _)
    simp only [cowCh, List.cons_append, List.set_cons_zero] at st
    refine t_stcm (l1 := ⟨70, 3, s', cellsV gs ++ [.int .i64 0, .string ⟨#[]⟩, Sl.v Sl.nil]⟩ :: kidCh gs) (c := hdrCh g a b lv) (l2 := [⟨3, 1, s, ints k⟩]) (j := 0) (st.eq (by simp)) rfl (by simp [hdrCh]) rfl fun w2 N2 st => ?_
    rw [hn, ← hfr]
    refine fin (a' := s') (gs' := gs ++ [zeroG]) ((st.triv 3 1 Sl.nil rfl rfl).perm ?_) (by simp; omega) ?_
    · have e : cellsV gs ++ [.int .i64 0, .string ⟨#[]⟩, Sl.v Sl.nil] = cellsV (gs ++ [zeroG]) := by rw [cellsV_app]; rfl
      rw [e]
      simp only [cowCh, kidCh, List.map_append, List.map_cons, List.map_nil, List.cons_append, List.append_assoc, List.nil_append, hdrCh, List.set_cons_zero]
      exact (List.Perm.cons _ List.perm_middle).trans (List.Perm.swap _ _ _)
    · rw [putAt_end hfr, hfr, List.set_append_right _ _ (Nat.le_refl _), Nat.sub_self, List.set_cons_zero]
  · have hlt : freeIx (pcs gs) < gs.length := by
      rcases Nat.lt_or_ge (freeIx (pcs gs)) gs.length with h2 | h2
      · exact h2
      · rw [if_neg (by omega)] at h; simp at h
    rw [if_pos hlt]
    exact fin st hlt (putAt_set hlt _).symm
end Go.Proofs.Ytboccoihmginiaa

namespace Go.Proofs.Ytboccoihmginiaa
open Go.RowKit Go.Sol
set_option linter.unusedVariables false
set_option linter.unusedSimpArgs false
theorem Mul64_ok {w : World} : Calls Try.prog 72 #[.int .u64 1, .int .u64 4] w fun e w' => e = .returned (.tuple #[.int .u64 0, .int .u64 4]) ∧ Below w.heap.size w w' := by
  refine run_pure (fun R => f72_math_bits_Mul64.ok R 1 4 w) fun R hR w1 N1 st => ?_
  unfold f72_math_bits_Mul64.T
  exact hR _ _ _ _ st (by kernel_rfl)
theorem Mul14_ok {w : World} : Calls Try.prog 70 #[.int .u64 1, .int .u64 4] w fun e w' => e = .returned (.tuple #[.int .u64 0, .int .u64 4]) ∧ Below w.heap.size w w' := by
  refine run_pure (fun R => f70_math_bits_Mul.ok R 1 4 w) fun R hR w1 N1 st => ?_
  unfold f70_math_bits_Mul.T
  refine t_callp (x := ((0, 4) : Int × Int)) st Mul64_ok fun w2 N2 st => ?_
  exact hR _ _ _ _ st rfl
/-- four times -1 -/
theorem Repeat4_ok {w : World} {a : Sl} (ha : Rd w 1 a (ints [-1])) :
    Calls Try.prog 65 #[Sl.v a, .int .i64 4] w fun e w' => ∃ (y : Sl) (cs1 : List Ch), e = .returned (Sl.v y) ∧ (y.n = 4 ∧ cs1 = [⟨3, 1, y, ints [-1, -1, -1, -1]⟩]) ∧ Res w [] w' cs1 := by
  have hna : a.n = 1 := by simpa using ha.n1
  obtain ⟨ad, hA, hc⟩ := ha.addr (i := 0) (by omega)
  refine run_ok (fun R => f65_slices_Repeat_int_int.ok R a 4 w) [] (Own.nil w NO) Sl.v (fun y cs1 => y.n = 4 ∧ cs1 = [⟨3, 1, y, ints [-1, -1, -1, -1]⟩]) fun R hR w1 N1 st => ?_
  unfold f65_slices_Repeat_int_int.T
  refine t_itef (by decide) ?_
  unfold f65_slices_Repeat_int_int.J1
  have e1 : IntKind.u64.wrap (a.n : Int) = 1 := by rw [hna]; decide
  have e2 : IntKind.u64.wrap 4 = 4 := by decide
  rw [e1, e2]
  refine t_callp (x := ((0, 4) : Int × Int)) st Mul14_ok fun w2 N2 st => ?_
  refine t_itef (by decide) ?_
  unfold f65_slices_Repeat_int_int.J3
  refine t_itef (by decide) ?_
  unfold f65_slices_Repeat_int_int.J2
  have e3 : IntKind.i64.wrap (((0, 4) : Int × Int).2) = 4 := by decide
  rw [e3]
  refine t_make τ24 st (by decide) (by decide) fun y w2 N2 hy st => ?_
  have hyn : y.n = 4 := hy
  obtain ⟨yd, hY, _⟩ := (st.ch (i := 0) rfl).rd.addr (i := 0) (by simp only; omega)
  have hyc : 4 ≤ y.c := by have := (st.ch (i := 0) rfl).2.1; simp only at this; omega
  have hlen := (st.ch (i := 0) rfl).1
  simp only at hlen
  have hzl : (madeCells (Value.int .i64 0).cells ((4 : Int).toNat * 1)).toList.length = 4 := by rw [hlen, hyn]
  generalize (madeCells (Value.int .i64 0).cells ((4 : Int).toNat * 1)).toList = zs at st hzl
  have hui : (Try.prog.info? 3).map (·.size) = some 1 := sz3
  refine t_copy (lo := 0) Try.underlying24 hui st (i := 0) rfl rfl hY (by rw [Addr.add_zero']; exact hY) (ints [-1]) (by simp [hna, hyn]) (by simp) (by simp; omega) hA (fun j v hj => st.old0 (hc j v hj)) (ints_one _) fun w2 N2 st => ?_
  refine t_loop (fun (p : Nat × List Value) (s : Int) => s = (p.1 : Int) ∧ 1 ≤ p.1 ∧ p.1 ≤ 4 ∧ p.2.length = 4 ∧ p.2.take p.1 = List.replicate p.1 (.int .i64 (-1))) (fun p _ => [⟨3, 1, y, p.2⟩]) (fun p _ => 4 - p.1) (1, _) st ⟨rfl, by simp, by simp, ?_, ?_⟩ ?_
  · simp [ints, hzl]
  · simp [ints]
  rintro ⟨m, zs⟩ s w2 N2 next ⟨rfl, h1, h4, hz, ht⟩ st hn
  simp only at h1 h4 hz ht st hn ⊢
  show f65_slices_Repeat_int_int.L4 R y (m : Int) _ w2 N2
  unfold f65_slices_Repeat_int_int.L4
  refine t_ite (fun h2 => ?_) (fun h2 => ?_)
  · have hm : m < 4 := by simp [hyn] at h2; omega
    refine t_ass (by omega) (t_ass (by omega) ?_)
    have hne : (y.c : Int).toNat ≠ (m : Int).toNat := by omega
    have hne0 : (y.c : Int).toNat ≠ (0 : Int).toNat := by omega
    have hvl : (List.replicate (min m (4 - m)) (Value.int .i64 (-1))).length = min m (4 - m) := by simp
    refine t_copy (lo := m) Try.underlying24 hui st (i := 0) rfl rfl hY (d := y.cut 1 (m : Int).toNat (y.n : Int).toNat (y.c : Int).toNat) (s := y.cut 1 (0 : Int).toNat (m : Int).toNat (y.c : Int).toNat) ?_ (List.replicate (min m (4 - m)) (.int .i64 (-1))) ?_ (by rw [hvl]; omega) (by rw [hvl]; simp only; omega) (sa := yd.add 0) ?_ (fun j v hj => ?_) ?_ fun w2 N2 st => ?_
    · unfold Sl.cut
      rw [if_neg hne, hY]
      simp
    · rw [hvl]; unfold Sl.cut
      show min m (4 - m) = min ((m : Int).toNat - (0 : Int).toNat) ((y.n : Int).toNat - (m : Int).toNat)
      omega
    · unfold Sl.cut
      rw [if_neg hne0, hY]
      rfl
    · rw [Addr.add_zero']
      refine st.cell (i := 0) rfl hY ?_
      have hjl : j < min m (4 - m) := by have := (List.getElem?_eq_some_iff.1 hj).1; simpa using this
      have : (zs.take m)[j]? = some v := by rw [ht]; rw [List.getElem?_replicate, if_pos (by omega)] at *; exact hj
      rw [List.getElem?_take, if_pos (by omega)] at this
      exact this
    · intro v hv
      have := List.eq_of_mem_replicate hv
      subst this; rfl
    · show next _ _ _
      rw [hvl, w64i (by omega) (by omega)]
      refine hn (m + min m (4 - m), _) _ _ _ ⟨by simp, by simp only; omega, by simp only; omega, ?_, ?_⟩ (by simp only; omega) st
      · simp only [List.length_append, List.length_take, List.length_drop, hvl]; omega
      · simp only [hvl]
        rw [ht, List.replicate_append_replicate, List.take_left' (by simp)]
  · have hm : m = 4 := by simp [hyn] at h2; omega
    subst hm
    have : zs = ints [-1, -1, -1, -1] := by
      rw [← hz, List.take_length, hz] at ht
      exact ht
    subst this
    exact hR y _ _ _ _ st ⟨hyn, rfl⟩ rfl
end Go.Proofs.Ytboccoihmginiaa

namespace Go.Proofs.Ytboccoihmginiaa
open Go.RowKit Go.Sol
set_option linter.unusedVariables false
set_option linter.unusedSimpArgs false
def bump (cs : List PC) (i : Nat) (d : Int) : List PC := cs.set i ⟨(cs.getD i noP).n + d, (cs.getD i noP).l, (cs.getD i noP).k⟩
def incs (cs : List PC) : List Int → List PC
  | [] => cs
  | x :: xs => incs (if 0 ≤ x then bump cs x.toNat 1 else cs) xs
def createP (cs : List PC) (c : PC) : List PC × Nat := (putAt cs (freeIx cs) c, freeIx cs)
def kids0 (lv : Nat) : List Int := if lv = 1 then [] else [-1, -1, -1, -1]
def ownP (cs : List PC) (k : Int) (lv : Nat) : List PC × Nat :=
  if k < 0 then createP cs ⟨1, ⟨#[]⟩, kids0 lv⟩
  else if (cellAt cs k).n = 1 then (cs, k.toNat)
  else createP (incs (bump cs k.toNat (-1)) (cellAt cs k).k) ⟨1, (cellAt cs k).l, (cellAt cs k).k⟩
@[simp] theorem bump_len (cs : List PC) (i : Nat) (d : Int) : (bump cs i d).length = cs.length := by simp [bump]
@[simp] theorem incs_len (cs : List PC) (xs : List Int) : (incs cs xs).length = cs.length := by
  induction xs generalizing cs with
  | nil => rfl
  | cons x xs ih => rw [incs, ih]; split <;> simp
def Bn (B : Int) (cs : List PC) : Prop := ∀ c ∈ cs, -B ≤ c.n ∧ c.n ≤ B
theorem Bn.bump {B : Int} {cs : List PC} (h : Bn B cs) {i : Nat} {d : Int} (hi : i < cs.length) (hd : -1 ≤ d ∧ d ≤ 1) : Bn (B + 1) (bump cs i d) := by
  intro c hc
  rcases List.mem_or_eq_of_mem_set hc with h1 | rfl
  · have := h c h1; omega
  · have := h cs[i] (List.getElem_mem hi)
    simp only [List.getD_eq_getElem?_getD, List.getElem?_eq_getElem hi, Option.getD_some]
    omega
theorem pcs_bump {gs : List GC} {i : Nat} (hi : i < gs.length) (d : Int) : pcs (gs.set i (⟨gs[i].1.n + d, gs[i].1.l, gs[i].1.k⟩, gs[i].2)) = bump (pcs gs) i d := by
  simp [pcs, bump, List.map_set, hi]
theorem pcs_mem {gs : List GC} {i : Nat} (hi : i < gs.length) : gs[i].1 ∈ pcs gs := List.mem_map.2 ⟨gs[i], List.getElem_mem hi, rfl⟩
theorem perm_end3 (l : List Ch) (x y : Ch) : (l ++ [x, y]).Perm (y :: (l ++ [x])) := by
  have := List.perm_append_singleton y (l ++ [x])
  rwa [List.append_assoc] at this
/-- what a cell's owner may ask -/
structure OwnOk (cs : List PC) (k : Int) : Prop where
  len : cs.length < 1048576
  lt : k < cs.length
  kl : 0 ≤ k → (cellAt cs k).k.length ≤ 1048576
  kr : 0 ≤ k → ∀ x ∈ (cellAt cs k).k, x < cs.length
  bn : Bn 1152921504606846976 cs
theorem own_ok {w : World} {g : Nat} {a b : Sl} {gs : List GC} {lv : Int} {k : Int} {m : Nat} (o : Own w NO (hcow g a b lv gs)) (hm : 1 ≤ m) (hk : OwnOk (pcs gs) k) :
    Calls Try.prog 53 #[.pointer (some ⟨g, 0, none⟩), .int .i64 k, .int .i64 m] w fun e w' => ∃ (y : Int) (cs1 : List Ch), e = .returned (.int .i64 y) ∧
      (y = ((ownP (pcs gs) k m).2 : Int) ∧ ∃ a' gs', pcs gs' = (ownP (pcs gs) k m).1 ∧ cs1 = hcow g a' b lv gs') ∧ Res w (hcow g a b lv gs) w' cs1 := by
  have hlen := hk.len
  rw [pcs_len] at hlen
  refine run_ok (fun R => f53_impl_Cow_own.ok R _ k m w) _ o (.int .i64) (fun y cs1 => y = ((ownP (pcs gs) k m).2 : Int) ∧ ∃ a' gs', pcs gs' = (ownP (pcs gs) k m).1 ∧ cs1 = hcow g a' b lv gs') fun R hR w1 N1 st => ?_
  unfold f53_impl_Cow_own.T f53_impl_Cow_own.J1
  by_cases hk0 : k < 0
  · refine t_itet (by simpa using hk0) ?_
    refine t_ite (fun h => ?_) (fun h => ?_)
    · have hm1 : m = 1 := by simp at h; omega
      subst hm1
      refine t_call (cs := hcow g a b lv gs ++ [⟨3, 1, Sl.nil, ints []⟩]) (rest := []) (((st.triv 3 1 Sl.nil rfl rfl).perm (List.perm_append_singleton _ _)).eq (by simp [ints])) (fun o => create_ok o (by omega)) fun y cs1 w2 N2 hp st => ?_
      obtain ⟨rfl, a', rfl⟩ := hp
      refine hR _ _ _ _ _ (st.eq (List.append_nil _)) ⟨?_, a', _, ?_, rfl⟩ rfl
      · simp [ownP, hk0, createP]
      · rw [pcs_putAt]; simp [ownP, hk0, createP, kids0]
    · have hm1 : m ≠ 1 := fun e => by simp [e] at h
      refine t_itet (by simpa using hk0) ?_
      refine t_new 1 1 rfl (by decide) st fun g2 w2 N2 st => ?_
      have hsrc : Rd w2 1 ⟨some ⟨g2, 0, none⟩, 1, 1⟩ (ints [-1]) := (st.ch (i := 0) rfl).rd
      refine t_call (cs := []) st (fun _ => Repeat4_ok hsrc) fun y cs1 w2 N2 hp st => ?_
      obtain ⟨_, rfl⟩ := hp
      refine t_call (cs := hcow g a b lv gs ++ [⟨3, 1, y, ints [-1, -1, -1, -1]⟩]) (rest := [⟨3, 1, ⟨some ⟨g2, 0, none⟩, 1, 1⟩, ints [-1]⟩]) (st.perm ?_) (fun o => create_ok o (by omega)) fun z cs1 w2 N2 hp st => ?_
      · simp only [List.cons_append, List.nil_append, List.append_assoc]
        refine List.perm_append_comm.trans ?_
        exact List.Perm.refl _
      obtain ⟨rfl, a', rfl⟩ := hp
      refine hR _ _ _ _ _ st.left ⟨?_, a', _, ?_, rfl⟩ rfl
      · simp [ownP, hk0, createP]
      · rw [pcs_putAt]; simp [ownP, hk0, createP, kids0, hm1]
  · obtain ⟨i, rfl⟩ : ∃ i : Nat, k = (i : Int) := ⟨k.toNat, by omega⟩
    have hlt := hk.lt
    have hil : i < gs.length := by simp at hlt; omega
    have hcell := cellAt_pcs hil
    have hg : gs[i]? = some gs[i] := List.getElem?_eq_getElem hil
    refine t_itef (by simp) (t_itef rfl (t_itef (by simp) ?_))
    replace st := st.eq (cs' := cowCh a gs ++ [hdrCh g a b lv]) rfl
    refine t_nn rfl ?_
    refine t_ldc (x := a) st (fun w' N' st => hdr0 (b := b) (lv := lv) st (by simp)) fun w2 N2 st => ?_
    obtain ⟨ad, hA, hlt2⟩ := cow_ad st hil
    refine t_idx' (i * 3) hA (by omega) hlt2 (by simp) ?_
    refine t_ldc (x := gs[i].1.n) st (fun w' N' st => cow_c0 st hA hg) fun w2 N2 st => ?_
    refine t_ite (fun h => ?_) (fun h => ?_)
    · have h1 : gs[i].1.n = 1 := by simpa using h
      refine hR _ _ _ _ _ st ⟨?_, a, gs, ?_, rfl⟩ rfl
      · rw [ownP, if_neg (by omega), hcell, if_pos h1]; rfl
      · rw [ownP, if_neg (by omega), hcell, if_pos h1]
    · have h1 : gs[i].1.n ≠ 1 := by simpa using h
      have hown : ownP (pcs gs) (i : Int) m = createP (incs (bump (pcs gs) i (-1)) gs[i].1.k) ⟨1, gs[i].1.l, gs[i].1.k⟩ := by
        rw [ownP, if_neg (by omega), hcell, if_neg h1]; rfl
      rw [hown] at hR
      have hbi := hk.bn gs[i].1 (pcs_mem hil)
      refine t_nn rfl ?_
      refine t_ldc (x := a) st (fun w' N' st => hdr0 (b := b) (lv := lv) st (by simp)) fun w2 N2 st => ?_
      refine t_idx' (i * 3) hA (by omega) hlt2 (by simp) ?_
      refine t_ldc (x := gs[i].1.n) st (fun w' N' st => cow_c0 st hA hg) fun w2 N2 st => ?_
      refine t_ldc (x := gs[i].1.l) st (fun w' N' st => cow_c1 st hA hg) fun w2 N2 st => ?_
      refine t_ldc (x := gs[i].2) st (fun w' N' st => cow_c2 st hA hg) fun w2 N2 st => ?_
      refine t_nn rfl ?_
      refine t_ldc (x := a) st (fun w' N' st => hdr0 (b := b) (lv := lv) st (by simp)) fun w2 N2 st => ?_
      refine t_idx' (i * 3) hA (by omega) hlt2 (by simp) ?_
      refine t_ldc (x := gs[i].1.n) st (fun w' N' st => cow_c0 st hA hg) fun w2 N2 st => ?_
      refine t_idx' (i * 3) hA (by omega) hlt2 (by simp) ?_
      rw [w64i (x := gs[i].1.n - 1) (by omega) (by omega)]
      refine t_c0 st hA hg fun w2 N2 st => ?_
      have hkl := hk.kl (by omega)
      have hkr := hk.kr (by omega)
      rw [hcell] at hkl hkr
      have hpb := pcs_bump hil (-1)
      replace st : Stt w (hcow g a b lv gs) (cowCh a (gs.set i (⟨gs[i].1.n + -1, gs[i].1.l, gs[i].1.k⟩, gs[i].2)) ++ [hdrCh g a b lv]) w2 N2 := st
      have hbn := hk.bn.bump (i := i) (d := -1) (by simpa using hil) (by omega)
      rw [← hpb] at hbn hR
      have hrd : Rd w2 1 gs[i].2 (ints gs[i].1.k) := (cow_rc st).kd (⟨gs[i].1.n + -1, gs[i].1.l, gs[i].1.k⟩, gs[i].2) (List.mem_set hil _)
      generalize hxs : gs[i].1.k = xs at *
      generalize hl0 : gs[i].1.l = l0 at *
      have hlen1 : (gs.set i (⟨gs[i].1.n + -1, l0, xs⟩, gs[i].2)).length = gs.length := by simp
      generalize (gs.set i (⟨gs[i].1.n + -1, l0, xs⟩, gs[i].2)) = gs1 at *
      refine t_call (cs := []) st (fun _ => Clone_ok hrd hkl) fun y cs1 w2 N2 hp st => ?_
      obtain ⟨hyn, rfl⟩ := hp
      refine t_loop (fun (p : Nat × List GC) (s : Int) => s = (p.1 : Int) ∧ p.1 ≤ xs.length ∧ p.2.length = gs.length ∧ Bn (1152921504606846976 + 1 + p.1) (pcs p.2) ∧ incs (pcs p.2) (xs.drop p.1) = incs (pcs gs1) xs) (fun p _ => cowCh a p.2 ++ [hdrCh g a b lv, ⟨3, 1, y, ints xs⟩]) (fun p _ => xs.length - p.1) (0, gs1) (st.perm ?_) ⟨rfl, Nat.zero_le _, hlen1, by simpa using hbn, rfl⟩ ?_
      · exact perm_end3 _ _ _
      rintro ⟨j, gs2⟩ s w2 N2 next ⟨rfl, hj, hl2, hb2, he⟩ st hn
      simp only at hj hl2 hb2 he st hn ⊢
      show f53_impl_Cow_own.L2 R _ _ l0 y (j : Int) _ w2 N2
      unfold f53_impl_Cow_own.L2 f53_impl_Cow_own.J3
      refine t_ite (fun h2 => ?_) (fun h2 => ?_)
      · have hjl : j < xs.length := by simp [hyn] at h2; exact h2
        have hcm : (⟨3, 1, y, ints xs⟩ : Ch) ∈ cowCh a gs2 ++ [hdrCh g a b lv, ⟨3, 1, y, ints xs⟩] := by simp
        obtain ⟨yd, hY, _⟩ := (st.own.ok _ hcm).rd.addr (i := j) (by simp only; omega)
        refine t_idx' j hY (by omega) (by omega) (by simp) ?_
        refine t_ldc (x := xs[j]) st (fun w' N' st => cellm st hcm hY (ints_at (by simp [hjl]))) fun w2 N2 st => ?_
        rw [List.drop_eq_getElem_cons hjl, incs] at he
        have hstep : ∀ {w2 N2} {gs3 : List GC}, Stt w (hcow g a b lv gs) (cowCh a gs3 ++ [hdrCh g a b lv, ⟨3, 1, y, ints xs⟩]) w2 N2 → gs3.length = gs.length → Bn (1152921504606846976 + 1 + ((j + 1 : Nat) : Int)) (pcs gs3) → incs (pcs gs3) (xs.drop (j + 1)) = incs (pcs gs1) xs → next (IntKind.i64.wrap ((j : Int) + 1)) w2 N2 := by
          intro w2 N2 gs3 st h1 h2 h3
          rw [w64s (by simp only [maxLen]; omega)]
          exact hn (j + 1, gs3) _ _ _ ⟨rfl, hjl, h1, h2, h3⟩ (by simp only; omega) st
        refine t_ite (fun h3 => ?_) (fun h3 => ?_)
        · have hx0 : 0 ≤ xs[j] := by simpa using h3
          have hxr := hkr xs[j] (List.getElem_mem hjl)
          rw [if_pos hx0] at he
          obtain ⟨x, hx⟩ : ∃ x : Nat, xs[j] = (x : Int) := ⟨xs[j].toNat, by omega⟩
          rw [hx] at he hxr ⊢
          have hxl : x < gs2.length := by rw [pcs_len] at hxr; omega
          have hgx : gs2[x]? = some gs2[x] := List.getElem?_eq_getElem hxl
          have hbx := hb2 gs2[x].1 (pcs_mem hxl)
          refine t_nn rfl ?_
          refine t_ldc (x := a) st (fun w' N' st => hdr0 (b := b) (lv := lv) st (by simp)) fun w2 N2 st => ?_
          obtain ⟨ad2, hA2, hlt3⟩ := cow_ad st hxl
          refine t_idx' (x * 3) hA2 (by omega) hlt3 (by simp) ?_
          refine t_ldc (x := gs2[x].1.n) st (fun w' N' st => cow_c0 st hA2 hgx) fun w2 N2 st => ?_
          refine t_idx' (x * 3) hA2 (by omega) hlt3 (by simp) ?_
          rw [w64i (x := gs2[x].1.n + 1) (by omega) (by omega)]
          refine t_c0 st hA2 hgx fun w2 N2 st => ?_
          have hpb2 := pcs_bump hxl 1
          refine hstep (gs3 := gs2.set x (⟨gs2[x].1.n + 1, gs2[x].1.l, gs2[x].1.k⟩, gs2[x].2)) st (by simpa using hl2) ?_ ?_
          · rw [hpb2]
            have := hb2.bump (i := x) (d := 1) (by simpa using hxl) (by omega)
            intro c hc
            have := this c hc
            omega
          · rw [hpb2]; exact he
        · have hx0 : ¬ 0 ≤ xs[j] := by simpa using h3
          rw [if_neg hx0] at he
          refine hstep st hl2 ?_ he
          intro c hc
          have := hb2 c hc
          omega
      · have hjl : j = xs.length := by simp [hyn] at h2; omega
        subst hjl
        rw [List.drop_length, incs] at he
        refine t_call (cs := hcow g a b lv gs2 ++ [⟨3, 1, y, ints xs⟩]) (rest := []) (st.eq (by simp [hcow])) (fun o => create_ok o (by omega)) fun z cs1 w2 N2 hp st => ?_
        obtain ⟨rfl, a', rfl⟩ := hp
        refine hR _ _ _ _ _ (st.eq (List.append_nil _)) ⟨?_, a', _, ?_, rfl⟩ rfl
        · rw [createP, he]
        · rw [pcs_putAt, createP, he]
end Go.Proofs.Ytboccoihmginiaa

namespace Go.Proofs.Ytboccoihmginiaa
open Go.RowKit Go.Sol
set_option linter.unusedVariables false
set_option linter.unusedSimpArgs false
abbrev tup4 : Sl × Sl × Int × Int → Value := fun z => .tuple #[.agg #[Sl.v z.1, Sl.v z.2.1, .int .i64 z.2.2.1], .int .i64 z.2.2.2]
theorem l14New_ok {w : World} {a b s : Sl} {gs : List GC} {k : List Int} {lv n : Int} {l : ByteArray} (o : Own w NO (cowCh a gs ++ [⟨3, 1, s, ints k⟩])) (hg : gs.length < 1048576) :
    Calls Try.prog 66 #[.agg #[Sl.v a, Sl.v b, .int .i64 lv], .agg #[.int .i64 n, .string l, Sl.v s]] w fun e w' => ∃ (y : Sl × Sl × Int × Int) (cs1 : List Ch), e = .returned (tup4 y) ∧
      (y.2 = (b, lv, (freeIx (pcs gs) : Int)) ∧ cs1 = cowCh y.1 (putAt gs (freeIx (pcs gs)) (⟨n, l, k⟩, s))) ∧ Res w (cowCh a gs ++ [⟨3, 1, s, ints k⟩]) w' cs1 := by
  have hna := (Own_rc o.left).n
  refine run_ok (fun R => f66_spec_l14New.ok R a b lv n l s w) _ o tup4 (fun y cs1 => y.2 = (b, lv, (freeIx (pcs gs) : Int)) ∧ cs1 = cowCh y.1 (putAt gs (freeIx (pcs gs)) (⟨n, l, k⟩, s))) fun R hR w1 N1 st => ?_
  unfold f66_spec_l14New.T
  refine t_loop (fun (i : Nat) (s : Int) => s = (i : Int) ∧ i ≤ gs.length ∧ ∀ j (hj : j < gs.length), j < i → gs[j].1.n ≠ 0) (fun _ _ => cowCh a gs ++ [⟨3, 1, s, ints k⟩]) (fun i _ => gs.length - i) 0 st ⟨rfl, Nat.zero_le _, fun j _ h => by omega⟩ ?_
  rintro i s' w2 N2 next ⟨rfl, hi, he⟩ st hn2
  show f66_spec_l14New.L1 R a b lv n l s (i : Int) _ w2 N2
  unfold f66_spec_l14New.L1
  refine t_ite (fun h1 => ?_) (fun h1 => ?_)
  · have hil : i < gs.length := by simp [hna] at h1; exact h1
    have hgi : gs[i]? = some gs[i] := List.getElem?_eq_getElem hil
    obtain ⟨ad, hA, hlt⟩ := cow_ad st hil
    refine t_idx' (i * 3) hA (by omega) hlt (by simp) ?_
    refine t_ldc (x := gs[i].1.n) st (fun w' N' st => cow_c0 st hA hgi) fun w2 N2 st => ?_
    refine t_ldc (x := gs[i].1.l) st (fun w' N' st => cow_c1 st hA hgi) fun w2 N2 st => ?_
    refine t_ldc (x := gs[i].2) st (fun w' N' st => cow_c2 st hA hgi) fun w2 N2 st => ?_
    refine t_ite (fun h2 => ?_) (fun h2 => ?_)
    · have : freeIx (pcs gs) = i := by
        unfold freeIx pcs
        rw [List.findIdx_map]
        refine (List.findIdx_eq hil).2 ⟨h2, fun j hj => ?_⟩
        have := he j (by omega) hj
        simpa using this
      rw [this] at hR
      refine t_idx' (i * 3) hA (by omega) hlt (by simp) ?_
      refine t_setc (k := k) (rest := []) st hA hgi fun w2 N2 st => ?_
      exact hR (a, b, lv, (i : Int)) _ _ _ _ (st.eq (List.append_nil _)) ⟨rfl, by rw [putAt_set hil]⟩ rfl
    · show next _ _ _
      rw [w64s (by simp only [maxLen]; omega)]
      refine hn2 (i + 1) _ _ _ ⟨rfl, hil, fun j hj hji => ?_⟩ (by omega) st
      rcases Nat.lt_succ_iff_lt_or_eq.1 hji with h | h
      · exact he j hj h
      · subst h; simpa using h2
  · have hil : i = gs.length := by simp [hna] at h1; omega
    subst hil
    have hfr : freeIx (pcs gs) = gs.length := by
      have hle := freeIx_le (pcs gs)
      rw [pcs_len] at hle
      rcases Nat.lt_or_ge (freeIx (pcs gs)) gs.length with hlt | hge
      · have h3 : freeIx (pcs gs) < (pcs gs).length := by simpa using hlt
        have := List.findIdx_getElem (w := h3)
        have h4 := he (freeIx (pcs gs)) hlt hlt
        simp only [pcs, List.getElem_map, beq_iff_eq] at this
        exact absurd this h4
      · omega
    refine t_new 3 1 rfl (by decide) st fun g2 w2 N2 st => ?_
    have hsrc := (st.ch (i := 0) rfl).rd
    refine t_app τ23 (i := 1) (xs := cellsV gs) st rfl hsrc (by intro u hu; simp at hu; rcases hu with rfl | rfl | rfl <;> rfl) (by simp only; omega) fun s2 w2 N2 hs2 st => ?_
    have hs2n : s2.n = gs.length + 1 := by rw [hs2]; simp only; omega
    have e : IntKind.i64.wrap ((s2.n : Int) - 1) = (freeIx (pcs gs) : Int) := by rw [w64i (by omega) (by omega), hfr]; omega
    rw [e]
    refine hR (s2, b, lv, (freeIx (pcs gs) : Int)) _ _ _ _ ((st.sub (List.sublist_cons_self _ _)).perm ?_) ⟨rfl, rfl⟩ rfl
    rw [putAt_end hfr]
    have e2 : cellsV gs ++ [.int .i64 n, .string l, Sl.v s] = cellsV (gs ++ [(⟨n, l, k⟩, s)]) := by rw [cellsV_app]; rfl
    simp only [cowCh, List.cons_append, List.set_cons_succ, List.set_cons_zero, kidCh, List.map_append, List.map_cons, List.map_nil]
    rw [← e2]
theorem l14Ours_ok {w : World} {a b : Sl} {gs : List GC} {lv : Int} {k : Int} {m : Nat} (o : Own w NO (cowCh a gs)) (hm : 1 ≤ m) (hk : OwnOk (pcs gs) k) :
    Calls Try.prog 56 #[.agg #[Sl.v a, Sl.v b, .int .i64 lv], .int .i64 k, .int .i64 m] w fun e w' => ∃ (y : Sl × Sl × Int × Int) (cs1 : List Ch), e = .returned (tup4 y) ∧
      (y.2 = (b, lv, ((ownP (pcs gs) k m).2 : Int)) ∧ ∃ gs', pcs gs' = (ownP (pcs gs) k m).1 ∧ cs1 = cowCh y.1 gs') ∧ Res w (cowCh a gs) w' cs1 := by
  have hlen := hk.len
  rw [pcs_len] at hlen
  refine run_ok (fun R => f56_spec_l14Ours.ok R a b lv k m w) _ o tup4 (fun y cs1 => y.2 = (b, lv, ((ownP (pcs gs) k m).2 : Int)) ∧ ∃ gs', pcs gs' = (ownP (pcs gs) k m).1 ∧ cs1 = cowCh y.1 gs') fun R hR w1 N1 st => ?_
  unfold f56_spec_l14Ours.T
  replace st := st.eq (cs' := cowCh a gs ++ []) (by simp)
  -- the last: a new cell
  have last : ∀ {w2 N2} {gs2 : List GC} {s : Sl} {l : ByteArray} {ks : List Int} {rest : List Ch}, Stt w (cowCh a gs) ((cowCh a gs2 ++ [⟨3, 1, s, ints ks⟩]) ++ rest) w2 N2 → gs2.length = gs.length → ownP (pcs gs) k m = createP (pcs gs2) ⟨1, l, ks⟩ → f56_spec_l14Ours.J3 R a b lv l s w2 N2 := by
    intro w2 N2 gs2 s l ks rest st h1 h2
    unfold f56_spec_l14Ours.J3
    refine t_call st (fun o => l14New_ok o (by omega)) fun y cs1 w2 N2 hp st => ?_
    obtain ⟨hy, rfl⟩ := hp
    obtain ⟨y1, y2, y3, y4⟩ := y
    simp only [Prod.mk.injEq] at hy
    obtain ⟨rfl, rfl, rfl⟩ := hy
    refine hR (y1, y2, y3, _) _ _ _ _ st.left ⟨by rw [h2]; rfl, _, ?_, rfl⟩ rfl
    rw [pcs_putAt, h2]; rfl
  have body : ∀ {w2 N2} {j2 : Sl} {rest : List Ch}, Stt w (cowCh a gs) (cowCh a gs ++ (⟨3, 1, j2, ints (kids0 m)⟩ :: rest)) w2 N2 → (0 ≤ k → (cellAt (pcs gs) k).n ≠ 1) → f56_spec_l14Ours.J2 R a b lv k j2 w2 N2 := by
    intro w2 N2 j2 rest st hn1
    unfold f56_spec_l14Ours.J2
    refine t_ite (fun h => ?_) (fun h => ?_)
    · have hk0 : 0 ≤ k := by simpa using h
      have h1 := hn1 hk0
      obtain ⟨i, rfl⟩ : ∃ i : Nat, k = (i : Int) := ⟨k.toNat, by omega⟩
      have hlt := hk.lt
      have hil : i < gs.length := by simp at hlt; omega
      have hcell := cellAt_pcs hil
      have hg : gs[i]? = some gs[i] := List.getElem?_eq_getElem hil
      rw [hcell] at h1
      have hown : ownP (pcs gs) (i : Int) m = createP (incs (bump (pcs gs) i (-1)) gs[i].1.k) ⟨1, gs[i].1.l, gs[i].1.k⟩ := by
        rw [ownP, if_neg (by omega), hcell, if_neg h1]; rfl
      have hbi := hk.bn gs[i].1 (pcs_mem hil)
      have hkl := hk.kl (by omega)
      have hkr := hk.kr (by omega)
      rw [hcell] at hkl hkr
      obtain ⟨ad, hA, hlt2⟩ := cow_ad st hil
      refine t_idx' (i * 3) hA (by omega) hlt2 (by simp) ?_
      refine t_ldc (x := gs[i].1.l) st (fun w' N' st => cow_c1 st hA hg) fun w2 N2 st => ?_
      refine t_new 1 0 rfl (by decide) st fun g1 w2 N2 st => ?_
      replace st := st.perm (cs' := cowCh a gs ++ (⟨3, 1, ⟨some ⟨g1, 0, none⟩, 0, 0⟩, []⟩ :: ⟨3, 1, j2, ints (kids0 m)⟩ :: rest)) List.perm_middle
      refine t_idx' (i * 3) hA (by omega) hlt2 (by simp) ?_
      refine t_ldc (x := gs[i].2) st (fun w' N' st => cow_c2 st hA hg) fun w2 N2 st => ?_
      have hrd : Rd w2 1 gs[i].2 (ints gs[i].1.k) := (cow_rc st).kd _ (List.getElem_mem hil)
      have hkn : gs[i].2.n = gs[i].1.k.length := by simpa using hrd.n1
      refine t_app τ24 (i := (cowCh a gs).length) (xs := []) st (by rw [List.getElem?_append_right (Nat.le_refl _), Nat.sub_self]; rfl) hrd (ints_one _) (by simp only; omega) fun y w2 N2 hy st => ?_
      rw [List.set_append_right _ _ (Nat.le_refl _), Nat.sub_self, List.set_cons_zero, List.nil_append] at st
      have hyn : y.n = gs[i].1.k.length := by rw [hy]; simp only; omega
      refine t_idx' (i * 3) hA (by omega) hlt2 (by simp) ?_
      refine t_ldc (x := gs[i].1.n) st (fun w' N' st => cow_c0 st hA hg) fun w2 N2 st => ?_
      refine t_idx' (i * 3) hA (by omega) hlt2 (by simp) ?_
      rw [w64i (x := gs[i].1.n - 1) (by omega) (by omega)]
      refine t_c0 st hA hg fun w2 N2 st => ?_
      have hpb := pcs_bump hil (-1)
      replace st : Stt w (cowCh a gs) (cowCh a (gs.set i (⟨gs[i].1.n + -1, gs[i].1.l, gs[i].1.k⟩, gs[i].2)) ++ (⟨3, 1, y, ints gs[i].1.k⟩ :: ⟨3, 1, j2, ints (kids0 m)⟩ :: rest)) w2 N2 := st
      have hbn := hk.bn.bump (i := i) (d := -1) (by simpa using hil) (by omega)
      rw [← hpb] at hbn hown
      generalize hxs : gs[i].1.k = xs at *
      generalize hl0 : gs[i].1.l = l0 at *
      have hlen1 : (gs.set i (⟨gs[i].1.n + -1, l0, xs⟩, gs[i].2)).length = gs.length := by simp
      generalize (gs.set i (⟨gs[i].1.n + -1, l0, xs⟩, gs[i].2)) = gs1 at *
      refine t_loop (fun (p : Nat × List GC) (s : Int) => s = (p.1 : Int) ∧ p.1 ≤ xs.length ∧ p.2.length = gs.length ∧ Bn (1152921504606846976 + 1 + p.1) (pcs p.2) ∧ incs (pcs p.2) (xs.drop p.1) = incs (pcs gs1) xs) (fun p _ => cowCh a p.2 ++ (⟨3, 1, y, ints xs⟩ :: ⟨3, 1, j2, ints (kids0 m)⟩ :: rest)) (fun p _ => xs.length - p.1) (0, gs1) st ⟨rfl, Nat.zero_le _, hlen1, by simpa using hbn, rfl⟩ ?_
      rintro ⟨j, gs2⟩ s w2 N2 next ⟨rfl, hj, hl2, hb2, he⟩ st hn
      simp only at hj hl2 hb2 he st hn ⊢
      show f56_spec_l14Ours.L4 R a b lv l0 y (j : Int) _ w2 N2
      unfold f56_spec_l14Ours.L4 f56_spec_l14Ours.J5
      refine t_ite (fun h2 => ?_) (fun h2 => ?_)
      · have hjl : j < xs.length := by simp [hyn] at h2; exact h2
        have hcm : (⟨3, 1, y, ints xs⟩ : Ch) ∈ cowCh a gs2 ++ (⟨3, 1, y, ints xs⟩ :: ⟨3, 1, j2, ints (kids0 m)⟩ :: rest) := by simp
        obtain ⟨yd, hY, _⟩ := (st.own.ok _ hcm).rd.addr (i := j) (by simp only; omega)
        refine t_idx' j hY (by omega) (by omega) (by simp) ?_
        refine t_ldc (x := xs[j]) st (fun w' N' st => cellm st hcm hY (ints_at (by simp [hjl]))) fun w2 N2 st => ?_
        rw [List.drop_eq_getElem_cons hjl, incs] at he
        have hstep : ∀ {w2 N2} {gs3 : List GC}, Stt w (cowCh a gs) (cowCh a gs3 ++ (⟨3, 1, y, ints xs⟩ :: ⟨3, 1, j2, ints (kids0 m)⟩ :: rest)) w2 N2 → gs3.length = gs.length → Bn (1152921504606846976 + 1 + ((j + 1 : Nat) : Int)) (pcs gs3) → incs (pcs gs3) (xs.drop (j + 1)) = incs (pcs gs1) xs → next (IntKind.i64.wrap ((j : Int) + 1)) w2 N2 := by
          intro w2 N2 gs3 st h1 h2 h3
          rw [w64s (by simp only [maxLen]; omega)]
          exact hn (j + 1, gs3) _ _ _ ⟨rfl, hjl, h1, h2, h3⟩ (by simp only; omega) st
        refine t_ite (fun h3 => ?_) (fun h3 => ?_)
        · have hx0 : 0 ≤ xs[j] := by simpa using h3
          have hxr := hkr xs[j] (List.getElem_mem hjl)
          rw [if_pos hx0] at he
          obtain ⟨x, hx⟩ : ∃ x : Nat, xs[j] = (x : Int) := ⟨xs[j].toNat, by omega⟩
          rw [hx] at he hxr ⊢
          have hxl : x < gs2.length := by rw [pcs_len] at hxr; omega
          have hgx : gs2[x]? = some gs2[x] := List.getElem?_eq_getElem hxl
          have hbx := hb2 gs2[x].1 (pcs_mem hxl)
          obtain ⟨ad2, hA2, hlt3⟩ := cow_ad st hxl
          refine t_idx' (x * 3) hA2 (by omega) hlt3 (by simp) ?_
          refine t_ldc (x := gs2[x].1.n) st (fun w' N' st => cow_c0 st hA2 hgx) fun w2 N2 st => ?_
          refine t_idx' (x * 3) hA2 (by omega) hlt3 (by simp) ?_
          rw [w64i (x := gs2[x].1.n + 1) (by omega) (by omega)]
          refine t_c0 st hA2 hgx fun w2 N2 st => ?_
          have hpb2 := pcs_bump hxl 1
          refine hstep (gs3 := gs2.set x (⟨gs2[x].1.n + 1, gs2[x].1.l, gs2[x].1.k⟩, gs2[x].2)) st (by simpa using hl2) ?_ ?_
          · rw [hpb2]
            have := hb2.bump (i := x) (d := 1) (by simpa using hxl) (by omega)
            intro c hc
            have := this c hc
            omega
          · rw [hpb2]; exact he
        · have hx0 : ¬ 0 ≤ xs[j] := by simpa using h3
          rw [if_neg hx0] at he
          refine hstep st hl2 ?_ he
          intro c hc
          have := hb2 c hc
          omega
      · have hjl : j = xs.length := by simp [hyn] at h2; omega
        subst hjl
        rw [List.drop_length, incs] at he
        refine last (ks := xs) (gs2 := gs2) (rest := ⟨3, 1, j2, ints (kids0 m)⟩ :: rest) (st.eq (by simp)) hl2 ?_
        rw [hown, createP, createP, he]
    · have hk0 : k < 0 := by simp at h; omega
      refine last (ks := kids0 m) (gs2 := gs) (rest := rest) (st.eq (by simp)) rfl ?_
      rw [ownP, if_pos hk0]
  have start : ∀ {w2 N2}, Stt w (cowCh a gs) (cowCh a gs ++ []) w2 N2 → (0 ≤ k → (cellAt (pcs gs) k).n ≠ 1) → f56_spec_l14Ours.J1 R a b lv k m false w2 N2 := by
    intro w2 N2 st hn1
    unfold f56_spec_l14Ours.J1
    refine t_itef rfl (t_ite (fun h => ?_) (fun h => ?_))
    · have hm1 : m ≠ 1 := fun e => by simp [e] at h
      refine t_new 1 4 rfl (by decide) st fun g2 w2 N2 st => ?_
      refine body (rest := []) (st.perm ?_) hn1
      have : ints (kids0 m) = [.int .i64 (-1), .int .i64 (-1), .int .i64 (-1), .int .i64 (-1)] := by simp [kids0, hm1, ints]
      rw [this]
      exact List.perm_middle
    · have hm1 : m = 1 := by simp at h; omega
      refine body (rest := []) ((st.triv 3 1 Sl.nil rfl rfl).perm ?_) hn1
      have : ints (kids0 m) = [] := by simp [kids0, hm1, ints]
      rw [this]
      exact List.perm_middle
  refine t_ite (fun h => ?_) (fun h => ?_)
  · have hk0 : 0 ≤ k := by simpa using h
    obtain ⟨i, rfl⟩ : ∃ i : Nat, k = (i : Int) := ⟨k.toNat, by omega⟩
    have hlt := hk.lt
    have hil : i < gs.length := by simp at hlt; omega
    have hcell := cellAt_pcs hil
    have hg : gs[i]? = some gs[i] := List.getElem?_eq_getElem hil
    obtain ⟨ad, hA, hlt2⟩ := cow_ad st hil
    refine t_idx' (i * 3) hA (by omega) hlt2 (by simp) ?_
    refine t_ldc (x := gs[i].1.n) st (fun w' N' st => cow_c0 st hA hg) fun w2 N2 st => ?_
    cases h1 : (gs[i].1.n == 1) with
    | true =>
      have h1' : gs[i].1.n = 1 := by simpa using h1
      unfold f56_spec_l14Ours.J1
      refine t_itet rfl (hR (a, b, lv, (i : Int)) _ _ _ _ (st.eq (List.append_nil _)) ⟨?_, gs, ?_, rfl⟩ rfl)
      · rw [ownP, if_neg (by omega), hcell, if_pos h1']; rfl
      · rw [ownP, if_neg (by omega), hcell, if_pos h1']
    | false => exact start st fun _ => by rw [hcell]; simpa using h1
  · exact start st fun h2 => by simp at h; omega
end Go.Proofs.Ytboccoihmginiaa

namespace Go.Proofs.Ytboccoihmginiaa
open Go.RowKit Go.Sol
set_option linter.unusedVariables false
set_option linter.unusedSimpArgs false
def setL (c : PC) (l : ByteArray) : PC := ⟨c.n, l, c.k⟩
def setK (c : PC) (d : Nat) (x : Int) : PC := ⟨c.n, c.l, c.k.set d x⟩
/-- what is done when the cell at i is written: it is kept, or it goes -/
def endP (lv : Nat) (cs : List PC) (i : Nat) : List PC × Int :=
  if (cs.getD i noP).l = ⟨#[]⟩ ∧ (lv = 0 ∨ maxI (cs.getD i noP).k < 0) then (cs.set i noP, -1) else (cs, (i : Int))
def putP (a : Nat) (leaf : ByteArray) : Nat → List PC → Int → List PC × Int
  | 0, cs, k => (cs, k)
  | lv + 1, cs, k =>
    if lv = 0 then endP lv ((ownP cs k (lv + 1)).1.set (ownP cs k (lv + 1)).2 (setL ((ownP cs k (lv + 1)).1.getD (ownP cs k (lv + 1)).2 noP) leaf)) (ownP cs k (lv + 1)).2
    else
      let r := putP a leaf lv (ownP cs k (lv + 1)).1 (kidAt ((ownP cs k (lv + 1)).1.getD (ownP cs k (lv + 1)).2 noP) (dig a (lv + 1)))
      endP lv (r.1.set (ownP cs k (lv + 1)).2 (setK (r.1.getD (ownP cs k (lv + 1)).2 noP) (dig a (lv + 1)) r.2)) (ownP cs k (lv + 1)).2
def PutOk (a : Nat) (leaf : ByteArray) : Nat → List PC → Int → Prop
  | 0, _, _ => True
  | lv + 1, cs, k => (leaf = ⟨#[]⟩ → 0 ≤ k) ∧ OwnOk cs k ∧ (ownP cs k (lv + 1)).2 < (ownP cs k (lv + 1)).1.length ∧ (lv ≠ 0 →
      ((ownP cs k (lv + 1)).1.getD (ownP cs k (lv + 1)).2 noP).k.length = 4 ∧
      PutOk a leaf lv (ownP cs k (lv + 1)).1 (kidAt ((ownP cs k (lv + 1)).1.getD (ownP cs k (lv + 1)).2 noP) (dig a (lv + 1))) ∧
      (ownP cs k (lv + 1)).2 < (putP a leaf lv (ownP cs k (lv + 1)).1 (kidAt ((ownP cs k (lv + 1)).1.getD (ownP cs k (lv + 1)).2 noP) (dig a (lv + 1)))).1.length ∧
      ((putP a leaf lv (ownP cs k (lv + 1)).1 (kidAt ((ownP cs k (lv + 1)).1.getD (ownP cs k (lv + 1)).2 noP) (dig a (lv + 1)))).1.getD (ownP cs k (lv + 1)).2 noP).k.length = 4 ∧
      ((putP a leaf lv (ownP cs k (lv + 1)).1 (kidAt ((ownP cs k (lv + 1)).1.getD (ownP cs k (lv + 1)).2 noP) (dig a (lv + 1)))).1.getD (ownP cs k (lv + 1)).2 noP).l = ⟨#[]⟩)
section
variable {w0 w : World} {cs0 rest : List Ch} {N : NP} {a : Sl} {gs : List GC} {i : Nat} {g : GC} {kd : Addr}
theorem cellsV_same {g' : GC} (hg : gs[i]? = some g) (h1 : g'.1.n = g.1.n) (h2 : g'.1.l = g.1.l) (h3 : g'.2 = g.2) : cellsV (gs.set i g') = cellsV gs := by
  induction gs generalizing i with
  | nil => simp at hg
  | cons x gs ih =>
    cases i with
    | zero => simp at hg; subst hg; simp only [List.set_cons_zero, cellsV, h1, h2, h3]
    | succ i => simp only [List.set_cons_succ, cellsV]; rw [ih (by simpa using hg)]
theorem kid_rd (st : Stt w0 cs0 (cowCh a gs ++ rest) w N) (hg : gs[i]? = some g) : Rd w 1 g.2 (ints g.1.k) := (cow_rc st).kd g (List.mem_of_getElem? hg)
theorem t_kid {d : Nat} {x : Int} {K : Tm} (st : Stt w0 cs0 (cowCh a gs ++ rest) w N) (hg : gs[i]? = some g) (hA : g.2.A = some kd) (hd : d < g.1.k.length)
    (k1 : ∀ w' N', Stt w0 cs0 (cowCh a (gs.set i (setK g.1 d x, g.2)) ++ rest) w' N' → K w' N') : T.stc (kd.add d) (.int .i64 x) K w N := by
  obtain ⟨hil, _⟩ := List.getElem?_eq_some_iff.1 hg
  have hc : (cowCh a gs ++ rest)[i + 1]? = some ⟨3, 1, g.2, ints g.1.k⟩ := by
    simp only [cowCh, List.cons_append, List.getElem?_cons_succ]
    rw [List.getElem?_append_left (by simpa [kidCh] using hil)]
    simp [kidCh, hg]
  refine t_stc (j := d) st hc hA (by simpa using hd) rfl fun w N st => k1 w N (st.eq ?_)
  simp only [cowCh, List.cons_append, List.set_cons_succ]
  rw [List.set_append_left _ _ (by simpa [kidCh] using hil), cellsV_same (g' := (setK g.1 d x, g.2)) hg rfl rfl rfl]
  congr 2
  unfold kidCh
  rw [List.map_set]
  simp only [setK, ints, List.map_set]
theorem pcs_set (gs : List GC) (i : Nat) (g : GC) : pcs (gs.set i g) = (pcs gs).set i g.1 := by simp [pcs, List.map_set]
theorem pcs_getD {gs : List GC} {i : Nat} (hi : i < gs.length) : (pcs gs).getD i noP = gs[i].1 := by simp [pcs, hi]
end
/-- the end of a put -/
theorem put_end {R : Value → World → Prop} {g : Nat} {a b : Sl} {gs : List GC} {L : Int} {lv i : Nat} {w0 : World} {cs0 : List Ch} (hi : i < gs.length) (h4 : lv ≠ 0 → gs[i].1.k.length = 4)
    (hR : ∀ (y : Int) (gs' : List GC) (a' : Sl) w' N', Stt w0 cs0 (hcow g a' b L gs') w' N' → (pcs gs', y) = endP lv (pcs gs) i → T.ret R (.int .i64 y) w' N') {w : World} {N : NP} (st : Stt w0 cs0 (hcow g a b L gs) w N) :
    f26_impl_Cow_put.J1 R (some ⟨g, 0, none⟩) ((lv + 1 : Nat) : Int) (i : Int) w N := by
  have hg : gs[i]? = some gs[i] := List.getElem?_eq_getElem hi
  have hgd := pcs_getD hi
  unfold f26_impl_Cow_put.J1
  refine t_nn rfl ?_
  refine t_ldc (x := a) st (fun w' N' st => hdr0 (b := b) (lv := L) st (by simp [hcow])) fun w2 N2 st => ?_
  obtain ⟨ad, hA, hlt⟩ := cow_ad st hi
  refine t_idx' (i * 3) hA (by omega) hlt (by simp) ?_
  refine t_ldc (x := gs[i].1.n) st (fun w' N' st => cow_c0 st hA hg) fun w2 N2 st => ?_
  refine t_ldc (x := gs[i].1.l) st (fun w' N' st => cow_c1 st hA hg) fun w2 N2 st => ?_
  refine t_ldc (x := gs[i].2) st (fun w' N' st => cow_c2 st hA hg) fun w2 N2 st => ?_
  have keep : ¬ ((gs[i].1.l = ⟨#[]⟩) ∧ (lv = 0 ∨ maxI gs[i].1.k < 0)) → ∀ {w2 N2}, Stt w0 cs0 (hcow g a b L gs) w2 N2 → f26_impl_Cow_put.J2 R (some ⟨g, 0, none⟩) (i : Int) false w2 N2 := by
    intro hno w2 N2 st
    unfold f26_impl_Cow_put.J2
    refine t_itef rfl (hR _ gs a _ _ st ?_)
    rw [endP, hgd, if_neg hno]
  have goes : ((gs[i].1.l = ⟨#[]⟩) ∧ (lv = 0 ∨ maxI gs[i].1.k < 0)) → ∀ {w2 N2}, Stt w0 cs0 (hcow g a b L gs) w2 N2 → f26_impl_Cow_put.J2 R (some ⟨g, 0, none⟩) (i : Int) true w2 N2 := by
    intro hyes w2 N2 st
    unfold f26_impl_Cow_put.J2
    refine t_itet rfl ?_
    refine t_nn rfl ?_
    refine t_ldc (x := a) st (fun w' N' st => hdr0 (b := b) (lv := L) st (by simp [hcow])) fun w2 N2 st => ?_
    refine t_idx' (i * 3) hA (by omega) hlt (by simp) ?_
    refine t_setc (k := []) (s := Sl.nil) (rest := [hdrCh g a b L]) ((st.triv 3 1 Sl.nil rfl rfl).perm List.perm_middle) hA hg fun w2 N2 st => ?_
    refine hR _ _ a _ _ st ?_
    rw [endP, hgd, if_pos hyes, pcs_set]; rfl
  refine t_ite (fun h => ?_) (fun h => ?_)
  · rw [bytes_beq] at h
    have hl : gs[i].1.l = ⟨#[]⟩ := by simpa using h
    refine t_ite (fun h2 => ?_) (fun h2 => ?_)
    · exact goes ⟨hl, .inl (by simp at h2; omega)⟩ st
    · have hlv : lv ≠ 0 := fun e => by simp [e] at h2
      have := h4 hlv
      refine t_callp st (Max_ok (kid_rd st hg) (by omega)) fun w2 N2 st => ?_
      by_cases hm : maxI gs[i].1.k < 0
      · simp only [hm, decide_true]; exact goes ⟨hl, .inr hm⟩ st
      · simp only [hm, decide_false]; exact keep (fun h => h.2.elim hlv hm) st
  · rw [bytes_beq] at h
    exact keep (fun h2 => by simp at h; exact h h2.1) st
theorem put_ok {at_ : Nat} {leaf : ByteArray} (ha : at_ < 4611686018427387904) : ∀ (lv : Nat) (hl : lv ≤ 3) (h1 : 1 ≤ lv) (w : World) (g : Nat) (a b : Sl) (gs : List GC) (L : Int) (k : Int) (o : Own w NO (hcow g a b L gs)) (hp : PutOk at_ leaf lv (pcs gs) k),
    Calls Try.prog 26 #[.pointer (some ⟨g, 0, none⟩), .int .i64 k, .int .i64 lv, .int .i64 at_, .string leaf] w fun e w' => ∃ (y : Int) (cs1 : List Ch), e = .returned (.int .i64 y) ∧
      (∃ a' gs', (pcs gs', y) = putP at_ leaf lv (pcs gs) k ∧ cs1 = hcow g a' b L gs') ∧ Res w (hcow g a b L gs) w' cs1
  | 0, _, h1 => by omega
  | lv + 1, hl, _ => by
    intro w g a b gs L k o hp
    obtain ⟨_, hown, hlt, hp⟩ := hp
    refine run_ok (fun R => f26_impl_Cow_put.ok R _ k ((lv + 1 : Nat) : Int) at_ leaf w) _ o (.int .i64) (fun y cs1 => ∃ a' gs', (pcs gs', y) = putP at_ leaf (lv + 1) (pcs gs) k ∧ cs1 = hcow g a' b L gs') fun R hR w1 N1 st => ?_
    unfold f26_impl_Cow_put.T
    refine t_call (cs := hcow g a b L gs) (rest := []) (st.eq (List.append_nil _).symm) (fun o => own_ok (m := lv + 1) o (by omega) hown) fun y cs1 w2 N2 hq st => ?_
    obtain ⟨rfl, a1, gs1, hg1, rfl⟩ := hq
    replace st := st.eq (List.append_nil _)
    rw [putP] at hR
    rw [← hg1] at hR hp hlt
    generalize (ownP (pcs gs) k (lv + 1)).2 = i at *
    rw [pcs_len] at hlt
    have hg : gs1[i]? = some gs1[i] := List.getElem?_eq_getElem hlt
    rw [pcs_getD hlt] at hR hp
    refine t_ite (fun h => ?_) (fun h => ?_)
    · have hlv : lv = 0 := by simp at h; omega
      subst hlv
      rw [if_pos rfl] at hR
      refine t_nn rfl ?_
      refine t_ldc (x := a1) st (fun w' N' st => hdr0 (b := b) (lv := L) st (by simp [hcow])) fun w2 N2 st => ?_
      obtain ⟨ad, hA, hlt2⟩ := cow_ad st hlt
      refine t_idx' (i * 3) hA (by omega) hlt2 (by simp) ?_
      refine t_c1 st hA hg fun w2 N2 st => ?_
      replace st : Stt w (hcow g a b L gs) (hcow g a1 b L (gs1.set i (setL gs1[i].1 leaf, gs1[i].2))) w2 N2 := st
      refine put_end (lv := 0) (by simpa using hlt) (fun h => absurd rfl h) (fun y gs' a' w' N' st he => hR y _ _ _ _ st ⟨a', gs', ?_, rfl⟩ rfl) st
      rw [he, pcs_set]
    · have hlv : lv ≠ 0 := fun e => by simp [e] at h
      rw [if_neg hlv] at hR
      obtain ⟨h4, hpr, hlt3, h43, _⟩ := hp hlv
      have hdl := dig_lt at_ (lv + 1)
      refine t_nn rfl ?_
      refine t_ldc (x := a1) st (fun w' N' st => hdr0 (b := b) (lv := L) st (by simp [hcow])) fun w2 N2 st => ?_
      obtain ⟨ad, hA, hlt2⟩ := cow_ad st hlt
      refine t_idx' (i * 3) hA (by omega) hlt2 (by simp) ?_
      refine t_ldc (x := gs1[i].2) st (fun w' N' st => cow_c2 st hA hg) fun w2 N2 st => ?_
      refine t_callq st (fun w' N' s => digit_ok (lv := lv + 1) (by omega) hl ha) fun w2 N2 st => ?_
      have hkn : gs1[i].2.n = 4 := by have := (kid_rd st hg).n1; simp at this; omega
      obtain ⟨kd, hK, hkc⟩ := (kid_rd st hg).addr (i := dig at_ (lv + 1)) (by omega)
      refine t_idx' (dig at_ (lv + 1)) hK (by omega) (by omega) (by simp) ?_
      refine t_ldc (x := kidAt gs1[i].1 (dig at_ (lv + 1))) st (fun w' N' st => by
        obtain ⟨kd', hK', hkc'⟩ := (kid_rd st hg).addr (i := dig at_ (lv + 1)) (by omega)
        rw [hK] at hK'; obtain rfl := Option.some.inj hK'
        exact hkc' _ _ (ints_at (kid_get (by omega)))) fun w2 N2 st => ?_
      rw [w64i (x := ((lv + 1 : Nat) : Int) - 1) (by omega) (by omega), show ((lv + 1 : Nat) : Int) - 1 = (lv : Int) by omega]
      refine t_call (cs := hcow g a1 b L gs1) (rest := []) (st.eq (List.append_nil _).symm) (fun o => put_ok ha lv (by omega) (by omega) _ _ _ _ _ _ _ o hpr) fun y cs1 w2 N2 hq st => ?_
      obtain ⟨a2, gs2, hq, rfl⟩ := hq
      replace st := st.eq (List.append_nil _)
      rw [← hq] at hR hlt3 h43
      simp only at hR hlt3 h43
      rw [pcs_len] at hlt3
      rw [pcs_getD hlt3] at hR h43
      have hg2 : gs2[i]? = some gs2[i] := List.getElem?_eq_getElem hlt3
      refine t_nn rfl ?_
      refine t_ldc (x := a2) st (fun w' N' st => hdr0 (b := b) (lv := L) st (by simp [hcow])) fun w2 N2 st => ?_
      obtain ⟨ad2, hA2, hlt4⟩ := cow_ad st hlt3
      refine t_idx' (i * 3) hA2 (by omega) hlt4 (by simp) ?_
      refine t_ldc (x := gs2[i].2) st (fun w' N' st => cow_c2 st hA2 hg2) fun w2 N2 st => ?_
      refine t_callq st (fun w' N' s => digit_ok (lv := lv + 1) (by omega) hl ha) fun w2 N2 st => ?_
      have hkn2 : gs2[i].2.n = 4 := by have := (kid_rd st hg2).n1; simp at this; omega
      obtain ⟨kd2, hK2, _⟩ := (kid_rd st hg2).addr (i := dig at_ (lv + 1)) (by omega)
      refine t_idx' (dig at_ (lv + 1)) hK2 (by omega) (by omega) (by simp) ?_
      refine t_kid st hg2 hK2 (by omega) fun w2 N2 st => ?_
      replace st : Stt w (hcow g a b L gs) (hcow g a2 b L (gs2.set i (setK gs2[i].1 (dig at_ (lv + 1)) y, gs2[i].2))) w2 N2 := st
      refine put_end (lv := lv) (by simpa using hlt3) (fun _ => by simp [setK, h43]) (fun y' gs' a' w' N' st he => hR y' _ _ _ _ st ⟨a', gs', ?_, rfl⟩ rfl) st
      rw [he, pcs_set]
end Go.Proofs.Ytboccoihmginiaa
