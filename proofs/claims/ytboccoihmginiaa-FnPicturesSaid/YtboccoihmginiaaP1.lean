/-
Helper texts: Helper text, written by a program of ours (gen.py): what Go functions do, as predicates on worlds. No condition.
-/
import Derived.Test.YtboccoihmginiaaP0
namespace Go.Proofs.Ytboccoihmginiaa
open Go.RowKit Go.Sol
set_option linter.unusedVariables false
set_option linter.unusedSimpArgs false
def f9_spec_GoodCow.J5 (R : Value → World → Prop) (next127 : (Int) → Tm) (s4_69 : Int) (j5_96 : Bool) : Tm :=
  T.ite j5_96 (T.ret R (.bool false)) (next127 (IntKind.i64.wrap (s4_69 + 1)))
def f9_spec_GoodCow.L4 (R : Value → World → Prop) (a0_0 : Sl) (y23 : Sl) (s4_69 : Int) (next127 : (Int) → Tm) : Tm :=
  T.ite (decide (s4_69 < (a0_0.n : Int))) (T.idx a0_0 s4_69 3 fun (p146 : Addr) => T.ldc (p146.add 0) (Value.int .i64) fun (x147_0 : Int) => T.ldc (p146.add 1) Value.string fun (x147_1 : ByteArray) => T.ldc (p146.add 2) Sl.v fun (x147_2 : Sl) => T.idx y23 s4_69 1 fun (p157 : Addr) => T.ldc p157 (Value.int .i64) fun (x158 : Int) => T.ite (x147_0 != x158) (f9_spec_GoodCow.J5 R next127 s4_69 true) (T.ite (x147_0 == 0) (T.ite (!(x147_1.toList == (⟨#[]⟩ : ByteArray).toList)) (f9_spec_GoodCow.J5 R next127 s4_69 true) (f9_spec_GoodCow.J5 R next127 s4_69 (decide (0 < (x147_2.n : Int))))) (f9_spec_GoodCow.J5 R next127 s4_69 false))) (T.ret R (.bool true))
def f9_spec_GoodCow.L3 (R : Value → World → Prop) (a0_0 : Sl) (a0_1 : Sl) (a0_2 : Int) (y23 : Sl) (y70 : Sl) (s3_54 : Int) (next84 : (Int) → Tm) : Tm :=
  T.ite (decide (s3_54 < (a0_1.n : Int))) (T.idx a0_1 s3_54 1 fun (p103 : Addr) => T.ldc p103 (Value.int .i64) fun (x104 : Int) => T.call Try.prog 36 [.agg #[Sl.v a0_0, Sl.v a0_1, .int .i64 a0_2], .int .i64 x104, .int .i64 a0_2, Sl.v y70] Value.bool fun (y109 : Bool) => T.ite (!y109) (T.ret R (.bool false)) (next84 (IntKind.i64.wrap (s3_54 + 1)))) (T.loop (fun (s : Int) next => f9_spec_GoodCow.L4 R a0_0 y23 s (fun (z0 : Int) => next z0)) 0)
def f9_spec_GoodCow.L2 (R : Value → World → Prop) (a0_0 : Sl) (a0_1 : Sl) (a0_2 : Int) (y23 : Sl) (s2_35 : Int) (next37 : (Int) → Tm) : Tm :=
  T.ite (decide (s2_35 < (a0_1.n : Int))) (T.idx a0_1 s2_35 1 fun (p56 : Addr) => T.ldc p56 (Value.int .i64) fun (x57 : Int) => T.call Try.prog 35 [.agg #[Sl.v a0_0, Sl.v a0_1, .int .i64 a0_2], .int .i64 x57, .int .i64 a0_2, Sl.v y23] Value.bool fun (y62 : Bool) => T.ite (!y62) (T.ret R (.bool false)) (next37 (IntKind.i64.wrap (s2_35 + 1)))) (T.run Try.prog (Instr.makeSlice 24 (.int .i64 (a0_0.n : Int)) (.int .i64 (a0_0.n : Int))) Sl.v fun (y70 : Sl) => T.loop (fun (s : Int) next => f9_spec_GoodCow.L3 R a0_0 a0_1 a0_2 y23 y70 s (fun (z0 : Int) => next z0)) 0)
def f9_spec_GoodCow.J1 (R : Value → World → Prop) (a0_0 : Sl) (a0_1 : Sl) (a0_2 : Int) (j1_27 : Bool) : Tm :=
  T.ite j1_27 (T.ret R (.bool false)) (T.run Try.prog (Instr.makeSlice 24 (.int .i64 (a0_0.n : Int)) (.int .i64 (a0_0.n : Int))) Sl.v fun (y23 : Sl) => T.loop (fun (s : Int) next => f9_spec_GoodCow.L2 R a0_0 a0_1 a0_2 y23 s (fun (z0 : Int) => next z0)) 0)
def f9_spec_GoodCow.T (R : Value → World → Prop) (a0_0 : Sl) (a0_1 : Sl) (a0_2 : Int) : Tm :=
  T.call Try.prog 27 [.int .i64 a0_2, .int .i64 1, .int .i64 3] Value.bool fun (y12 : Bool) => T.ite (!y12) (f9_spec_GoodCow.J1 R a0_0 a0_1 a0_2 true) (T.ite (decide (80 < (a0_0.n : Int))) (f9_spec_GoodCow.J1 R a0_0 a0_1 a0_2 true) (T.call Try.prog 27 [.int .i64 (a0_1.n : Int), .int .i64 1, .int .i64 8] Value.bool fun (y15 : Bool) => f9_spec_GoodCow.J1 R a0_0 a0_1 a0_2 (!y15)))
set_option maxHeartbeats 4000000 in
set_option maxRecDepth 100000 in
theorem f9_spec_GoodCow.ok (R : Value → World → Prop) (a0_0 : Sl) (a0_1 : Sl) (a0_2 : Int) (w : World) (h : Aft w (fun _ => False) (f9_spec_GoodCow.T R a0_0 a0_1 a0_2)) :
    Calls Try.prog 9 (List.toArray [.agg #[Sl.v a0_0, Sl.v a0_1, .int .i64 a0_2]]) w fun e w' => ∃ v, e = .returned v ∧ R v w' := by
  refine enter 98 Try.func9 rfl rfl rfl ?_
  have B := Bx.nil w
  have H := h
  clear h
  refine c_seq (fun Q3 n1 o2 => ?_)
  refine c_region ?_
  obtain ⟨w4, N, g5, hw, hg, B, H⟩ := B.new H 26 #[Sl.v a0_0, Sl.v a0_1, .int .i64 a0_2]
  refine stp (v := .pointer (some ⟨g5, 0, none⟩)) (w' := w4) rfl rfl (r_box (v1 := .agg #[Sl.v a0_0, Sl.v a0_1, .int .i64 a0_2]) rfl rfl (box_run rfl hw hg)) ?_
  clear hw hg
  refine stp (v := .bool false) rfl rfl (r_assign rfl rfl) ?_
  refine fin ?_
  refine n1 _ _ ?_
  refine c_seq (fun Q8 n6 o7 => ?_)
  refine c_seqj (fun a w => ∃ (j1_27 : Bool) (g : Nat → Value) (N : NP), a = A 98 (updl g [(1, .pointer (some ⟨g5, 0, none⟩)), (27, .bool j1_27)]) ∧ Bx w N [⟨g5, 26, #[Sl.v a0_0, Sl.v a0_1, .int .i64 a0_2]⟩] ∧ Aft w N (f9_spec_GoodCow.J1 R a0_0 a0_1 a0_2 j1_27)) (fun Q11 n9 o10 => ?_) ?_
  ·
    refine c_region ?_
    refine stp (v := .pointer (some ⟨g5, 2, none⟩)) rfl rfl (r_fieldAddr (v1 := .pointer (some ⟨g5, 0, none⟩)) rfl rfl (fld26_2 _ _)) ?_
    refine stp (v := .int .i64 a0_2) rfl rfl (r_load (v1 := .pointer (some ⟨g5, 2, none⟩)) rfl rfl (ld1 Try.underlying3 rfl (bx1 (B.get 0 rfl) rfl rfl))) ?_
    refine stpc rfl rfl (r_call (vs := [.int .i64 a0_2, .int .i64 1, .int .i64 3]) rfl rfl (ca27 _ _)) ?_
    refine at_call B H (fun y12 w B H => ?_)
    refine stp (v := .bool (!y12)) rfl rfl (r_not (b := y12) rfl rfl) ?_
    refine stp (v := .bool (!y12)) rfl rfl (r_move rfl rfl) ?_
    rcases Bool.eq_false_or_eq_true (!y12) with hb13 | hb13
    · replace H := at_itet hb13 H
      refine skp (un rfl rfl rfl rfl (congrArg Value.bool hb13) nofun) rfl ?_
      refine skp (un rfl rfl rfl rfl (congrArg Value.bool hb13) nofun) rfl ?_
      refine skp (un rfl rfl rfl rfl (congrArg Value.bool hb13) nofun) rfl ?_
      refine skp (un rfl rfl rfl rfl (congrArg Value.bool hb13) nofun) rfl ?_
      refine stp (v := .bool true) rfl rfl (r_pickt rfl (congrArg Value.bool hb13) rfl) ?_
      refine stp (v := .bool true) rfl rfl (r_move rfl rfl) ?_
      refine skp (un rfl rfl rfl rfl rfl nofun) rfl ?_
      refine skp (un rfl rfl rfl rfl rfl nofun) rfl ?_
      refine skp (un rfl rfl rfl rfl rfl nofun) rfl ?_
      refine skp (un rfl rfl rfl rfl rfl nofun) rfl ?_
      refine skp (un rfl rfl rfl rfl rfl nofun) rfl ?_
      refine stp (v := .bool true) rfl rfl (r_pickt rfl rfl rfl) ?_
      refine fin ?_
      exact n9 _ _ ⟨true, _, _, fr_self rfl, B, H⟩
    · replace H := at_itef hb13 H
      refine stp (v := .pointer (some ⟨g5, 0, none⟩)) (wn rfl rfl rfl rfl (congrArg Value.bool hb13)) rfl (r_fieldAddr (v1 := .pointer (some ⟨g5, 0, none⟩)) rfl rfl (fld26_0 _ _)) ?_
      refine stp (v := Sl.v a0_0) (wn rfl rfl rfl rfl (congrArg Value.bool hb13)) rfl (r_load (v1 := .pointer (some ⟨g5, 0, none⟩)) rfl rfl (ld1 Try.underlying23 rfl (bx1 (B.get 0 rfl) rfl rfl))) ?_
      refine stp (v := .int .i64 (a0_0.n : Int)) (wn rfl rfl rfl rfl (congrArg Value.bool hb13)) rfl (r_builtin (vs := [Sl.v a0_0]) rfl rfl (fun _ => lenl Try.underlying23)) ?_
      refine stp (v := .bool (decide (80 < (a0_0.n : Int)))) (wn rfl rfl rfl rfl (congrArg Value.bool hb13)) rfl (r_gtr (a := (a0_0.n : Int)) (b := 80) rfl rfl rfl) ?_
      refine stp (v := .bool (decide (80 < (a0_0.n : Int)))) rfl rfl (r_pickf rfl (congrArg Value.bool hb13) rfl) ?_
      refine stp (v := .bool (decide (80 < (a0_0.n : Int)))) rfl rfl (r_move rfl rfl) ?_
      rcases Bool.eq_false_or_eq_true (decide (80 < (a0_0.n : Int))) with hb14 | hb14
      · replace H := at_itet hb14 H
        refine skp (un rfl rfl rfl rfl (congrArg Value.bool hb14) nofun) rfl ?_
        refine skp (un rfl rfl rfl rfl (congrArg Value.bool hb14) nofun) rfl ?_
        refine skp (un rfl rfl rfl rfl (congrArg Value.bool hb14) nofun) rfl ?_
        refine skp (un rfl rfl rfl rfl (congrArg Value.bool hb14) nofun) rfl ?_
        refine skp (un rfl rfl rfl rfl (congrArg Value.bool hb14) nofun) rfl ?_
        refine stp (v := .bool true) rfl rfl (r_pickt rfl (congrArg Value.bool hb14) rfl) ?_
        refine fin ?_
        exact n9 _ _ ⟨true, _, _, fr_self rfl, B, H⟩
      · replace H := at_itef hb14 H
        refine stp (v := .pointer (some ⟨g5, 1, none⟩)) (wn rfl rfl rfl rfl (congrArg Value.bool hb14)) rfl (r_fieldAddr (v1 := .pointer (some ⟨g5, 0, none⟩)) rfl rfl (fld26_1 _ _)) ?_
        refine stp (v := Sl.v a0_1) (wn rfl rfl rfl rfl (congrArg Value.bool hb14)) rfl (r_load (v1 := .pointer (some ⟨g5, 1, none⟩)) rfl rfl (ld1 Try.underlying24 rfl (bx1 (B.get 0 rfl) rfl rfl))) ?_
        refine stp (v := .int .i64 (a0_1.n : Int)) (wn rfl rfl rfl rfl (congrArg Value.bool hb14)) rfl (r_builtin (vs := [Sl.v a0_1]) rfl rfl (fun _ => lenl Try.underlying24)) ?_
        refine stpc (wn rfl rfl rfl rfl (congrArg Value.bool hb14)) rfl (r_call (vs := [.int .i64 (a0_1.n : Int), .int .i64 1, .int .i64 8]) rfl rfl (ca27 _ _)) ?_
        refine at_call B H (fun y15 w B H => ?_)
        refine stp (v := .bool (!y15)) (wn rfl rfl rfl rfl (congrArg Value.bool hb14)) rfl (r_not (b := y15) rfl rfl) ?_
        refine stp (v := .bool (!y15)) rfl rfl (r_pickf rfl (congrArg Value.bool hb14) rfl) ?_
        refine fin ?_
        exact n9 _ _ ⟨!y15, _, _, fr_self rfl, B, H⟩
  ·
    rintro _ w ⟨j1_27, g, N, rfl, B, H⟩
    refine c_cond (b := j1_27) rfl (fun hb16 => ?_) (fun hb16 => ?_)
    · replace H := at_itet hb16 H
      refine c_seq (fun Q19 n17 o18 => ?_)
      refine c_region ?_
      refine stp (v := .bool false) rfl rfl (r_assign rfl rfl) ?_
      refine fin ?_
      refine n17 _ _ ?_
      refine c_ret (o7 _ _ _ nofun ((done (vs := [.bool false]) (.tmp rfl .nil) rfl ⟨_, rfl, H.now⟩)))
    · replace H := at_itef hb16 H
      refine c_skip ?_
      refine n6 _ _ ?_
      refine c_seq (fun Q22 n20 o21 => ?_)
      refine c_region ?_
      refine stp (v := .pointer (some ⟨g5, 0, none⟩)) rfl rfl (r_fieldAddr (v1 := .pointer (some ⟨g5, 0, none⟩)) rfl rfl (fld26_0 _ _)) ?_
      refine stp (v := Sl.v a0_0) rfl rfl (r_load (v1 := .pointer (some ⟨g5, 0, none⟩)) rfl rfl (ld1 Try.underlying23 rfl (bx1 (B.get 0 rfl) rfl rfl))) ?_
      refine stp (v := .int .i64 (a0_0.n : Int)) rfl rfl (r_builtin (vs := [Sl.v a0_0]) rfl rfl (fun _ => lenl Try.underlying23)) ?_
      obtain ⟨y23, w2, hr, B, H⟩ := at_run B H
      refine stp (v := Sl.v y23) rfl rfl (r_makeSlice (v1 := .int .i64 (a0_0.n : Int)) (v2 := .int .i64 (a0_0.n : Int)) rfl rfl rfl hr) ?_
      clear hr
      refine stp (v := Sl.v y23) rfl rfl (r_assign rfl rfl) ?_
      refine fin ?_
      refine n20 _ _ ?_
      refine c_seq (fun Q26 n24 o25 => ?_)
      refine c_seq (fun Q29 n27 o28 => ?_)
      refine c_region ?_
      refine stp (v := .pointer (some ⟨g5, 1, none⟩)) rfl rfl (r_fieldAddr (v1 := .pointer (some ⟨g5, 0, none⟩)) rfl rfl (fld26_1 _ _)) ?_
      refine stp (v := Sl.v a0_1) rfl rfl (r_load (v1 := .pointer (some ⟨g5, 1, none⟩)) rfl rfl (ld1 Try.underlying24 rfl (bx1 (B.get 0 rfl) rfl rfl))) ?_
      refine stp (v := .int .i64 (a0_1.n : Int)) rfl rfl (r_builtin (vs := [Sl.v a0_1]) rfl rfl (fun _ => lenl Try.underlying24)) ?_
      refine stp (v := .int .i64 0) rfl rfl (r_move rfl rfl) ?_
      refine fin ?_
      refine n27 _ _ ?_
      refine c_block (fun Q33 n30 x32 o31 => ?_)
      refine c_loop (σ := Int) (s0 := 0) (fun s => [(1, .pointer (some ⟨g5, 0, none⟩)), (3, Sl.v y23), (33, Sl.v a0_1), (34, .int .i64 (a0_1.n : Int)), (35, .int .i64 s)]) (fun s => [⟨g5, 26, #[Sl.v a0_0, Sl.v a0_1, .int .i64 a0_2]⟩]) B H rfl ?_
      rintro Q36 next37 s2_35 g w N nx34 o35 B H
      refine c_seq (fun Q40 n38 o39 => ?_)
      refine c_region ?_
      refine stp (v := .bool (decide (s2_35 < (a0_1.n : Int)))) rfl rfl (r_lss (a := s2_35) (b := (a0_1.n : Int)) rfl rfl rfl) ?_
      refine fin ?_
      refine n38 _ _ ?_
      refine c_seq (fun Q43 n41 o42 => ?_)
      refine c_cond (b := decide (s2_35 < (a0_1.n : Int))) rfl (fun hb44 => ?_) (fun hb44 => ?_)
      · replace H := at_itet hb44 H
        refine c_skip ?_
        refine n41 _ _ ?_
        refine c_seq (fun Q47 n45 o46 => ?_)
        refine c_block (fun Q51 n48 x50 o49 => ?_)
        refine c_seq (fun Q54 n52 o53 => ?_)
        refine c_region ?_
        obtain ⟨p55, p56, he, h0, h1, hpa, H'⟩ := at_idx' H
        replace H := H'; clear H'
        refine stp (v := .pointer (some p56)) rfl rfl (r_indexAddr (v1 := Sl.v a0_1) (v2 := .int .i64 s2_35) rfl rfl rfl (ix' Try.underlying24 sz3 he h0 h1 hpa)) ?_
        clear he h0 h1 hpa
        obtain ⟨x57, hx58, H'⟩ := at_ldc H
        replace H := H'; clear H'
        refine stp (v := .int .i64 x57) rfl rfl (r_load (v1 := .pointer (some p56)) rfl rfl (ld1 Try.underlying3 rfl (hx58 _ (Below.refl _ _)))) ?_
        refine stp (v := .int .i64 x57) rfl rfl (r_assign rfl rfl) ?_
        refine fin ?_
        refine n52 _ _ ?_
        refine c_seq (fun Q61 n59 o60 => ?_)
        refine c_region ?_
        refine stp (v := .agg #[Sl.v a0_0, Sl.v a0_1, .int .i64 a0_2]) rfl rfl (r_load (v1 := .pointer (some ⟨g5, 0, none⟩)) rfl rfl (bxn (B.get 0 rfl) Try.underlying26 rfl sz26)) ?_
        refine stp (v := .int .i64 x57) rfl rfl (r_move rfl rfl) ?_
        refine stp (v := .pointer (some ⟨g5, 2, none⟩)) rfl rfl (r_fieldAddr (v1 := .pointer (some ⟨g5, 0, none⟩)) rfl rfl (fld26_2 _ _)) ?_
        refine stp (v := .int .i64 a0_2) rfl rfl (r_load (v1 := .pointer (some ⟨g5, 2, none⟩)) rfl rfl (ld1 Try.underlying3 rfl (bx1 (B.get 0 rfl) rfl rfl))) ?_
        refine stp (v := Sl.v y23) rfl rfl (r_move rfl rfl) ?_
        refine stpc rfl rfl (r_call (vs := [.agg #[Sl.v a0_0, Sl.v a0_1, .int .i64 a0_2], .int .i64 x57, .int .i64 a0_2, Sl.v y23]) rfl rfl (ca35 _ _)) ?_
        refine at_call B H (fun y62 w B H => ?_)
        refine stp (v := .bool (!y62)) rfl rfl (r_not (b := y62) rfl rfl) ?_
        refine fin ?_
        refine n59 _ _ ?_
        refine c_cond (b := !y62) rfl (fun hb63 => ?_) (fun hb63 => ?_)
        · replace H := at_itet hb63 H
          refine c_seq (fun Q66 n64 o65 => ?_)
          refine c_region ?_
          refine stp (v := .bool false) rfl rfl (r_assign rfl rfl) ?_
          refine fin ?_
          refine n64 _ _ ?_
          refine c_ret (o49 _ _ _ nofun (by simp) (o46 _ _ _ nofun (o35 _ _ _ nofun (o31 _ _ _ nofun (by simp) (o25 _ _ _ nofun ((done (vs := [.bool false]) (.tmp rfl .nil) rfl ⟨_, rfl, H.now⟩)))))))
        · replace H := at_itef hb63 H
          refine c_skip ?_
          refine n48 _ _ ?_
          refine n45 _ _ ?_
          refine c_region ?_
          refine stp (v := .int .i64 (IntKind.i64.wrap (s2_35 + 1))) rfl rfl (r_add (a := s2_35) (b := 1) rfl rfl rfl) ?_
          refine stp (v := .int .i64 (IntKind.i64.wrap (s2_35 + 1))) rfl rfl (r_move rfl rfl) ?_
          refine fin ?_
          exact nx34 (IntKind.i64.wrap (s2_35 + 1)) _ _ _ B H rfl
      · replace H := at_itef hb44 H
        refine c_exit (o42 _ _ _ nofun (o35 _ _ _ nofun (x32 _ _ ?_)))
        refine n24 _ _ ?_
        refine c_seq (fun Q69 n67 o68 => ?_)
        refine c_region ?_
        refine stp (v := .pointer (some ⟨g5, 0, none⟩)) rfl rfl (r_fieldAddr (v1 := .pointer (some ⟨g5, 0, none⟩)) rfl rfl (fld26_0 _ _)) ?_
        refine stp (v := Sl.v a0_0) rfl rfl (r_load (v1 := .pointer (some ⟨g5, 0, none⟩)) rfl rfl (ld1 Try.underlying23 rfl (bx1 (B.get 0 rfl) rfl rfl))) ?_
        refine stp (v := .int .i64 (a0_0.n : Int)) rfl rfl (r_builtin (vs := [Sl.v a0_0]) rfl rfl (fun _ => lenl Try.underlying23)) ?_
        obtain ⟨y70, w2, hr, B, H⟩ := at_run B H
        refine stp (v := Sl.v y70) rfl rfl (r_makeSlice (v1 := .int .i64 (a0_0.n : Int)) (v2 := .int .i64 (a0_0.n : Int)) rfl rfl rfl hr) ?_
        clear hr
        refine stp (v := Sl.v y70) rfl rfl (r_assign rfl rfl) ?_
        refine fin ?_
        refine n67 _ _ ?_
        refine c_seq (fun Q73 n71 o72 => ?_)
        refine c_seq (fun Q76 n74 o75 => ?_)
        refine c_region ?_
        refine stp (v := .pointer (some ⟨g5, 1, none⟩)) rfl rfl (r_fieldAddr (v1 := .pointer (some ⟨g5, 0, none⟩)) rfl rfl (fld26_1 _ _)) ?_
        refine stp (v := Sl.v a0_1) rfl rfl (r_load (v1 := .pointer (some ⟨g5, 1, none⟩)) rfl rfl (ld1 Try.underlying24 rfl (bx1 (B.get 0 rfl) rfl rfl))) ?_
        refine stp (v := .int .i64 (a0_1.n : Int)) rfl rfl (r_builtin (vs := [Sl.v a0_1]) rfl rfl (fun _ => lenl Try.underlying24)) ?_
        refine stp (v := .int .i64 0) rfl rfl (r_move rfl rfl) ?_
        refine fin ?_
        refine n74 _ _ ?_
        refine c_block (fun Q80 n77 x79 o78 => ?_)
        refine c_loop (σ := Int) (s0 := 0) (fun s => [(1, .pointer (some ⟨g5, 0, none⟩)), (3, Sl.v y23), (6, Sl.v y70), (52, Sl.v a0_1), (53, .int .i64 (a0_1.n : Int)), (54, .int .i64 s)]) (fun s => [⟨g5, 26, #[Sl.v a0_0, Sl.v a0_1, .int .i64 a0_2]⟩]) B H rfl ?_
        rintro Q83 next84 s3_54 g w N nx81 o82 B H
        refine c_seq (fun Q87 n85 o86 => ?_)
        refine c_region ?_
        refine stp (v := .bool (decide (s3_54 < (a0_1.n : Int)))) rfl rfl (r_lss (a := s3_54) (b := (a0_1.n : Int)) rfl rfl rfl) ?_
        refine fin ?_
        refine n85 _ _ ?_
        refine c_seq (fun Q90 n88 o89 => ?_)
        refine c_cond (b := decide (s3_54 < (a0_1.n : Int))) rfl (fun hb91 => ?_) (fun hb91 => ?_)
        · replace H := at_itet hb91 H
          refine c_skip ?_
          refine n88 _ _ ?_
          refine c_seq (fun Q94 n92 o93 => ?_)
          refine c_block (fun Q98 n95 x97 o96 => ?_)
          refine c_seq (fun Q101 n99 o100 => ?_)
          refine c_region ?_
          obtain ⟨p102, p103, he, h0, h1, hpa, H'⟩ := at_idx' H
          replace H := H'; clear H'
          refine stp (v := .pointer (some p103)) rfl rfl (r_indexAddr (v1 := Sl.v a0_1) (v2 := .int .i64 s3_54) rfl rfl rfl (ix' Try.underlying24 sz3 he h0 h1 hpa)) ?_
          clear he h0 h1 hpa
          obtain ⟨x104, hx105, H'⟩ := at_ldc H
          replace H := H'; clear H'
          refine stp (v := .int .i64 x104) rfl rfl (r_load (v1 := .pointer (some p103)) rfl rfl (ld1 Try.underlying3 rfl (hx105 _ (Below.refl _ _)))) ?_
          refine stp (v := .int .i64 x104) rfl rfl (r_assign rfl rfl) ?_
          refine fin ?_
          refine n99 _ _ ?_
          refine c_seq (fun Q108 n106 o107 => ?_)
          refine c_region ?_
          refine stp (v := .agg #[Sl.v a0_0, Sl.v a0_1, .int .i64 a0_2]) rfl rfl (r_load (v1 := .pointer (some ⟨g5, 0, none⟩)) rfl rfl (bxn (B.get 0 rfl) Try.underlying26 rfl sz26)) ?_
          refine stp (v := .int .i64 x104) rfl rfl (r_move rfl rfl) ?_
          refine stp (v := .pointer (some ⟨g5, 2, none⟩)) rfl rfl (r_fieldAddr (v1 := .pointer (some ⟨g5, 0, none⟩)) rfl rfl (fld26_2 _ _)) ?_
          refine stp (v := .int .i64 a0_2) rfl rfl (r_load (v1 := .pointer (some ⟨g5, 2, none⟩)) rfl rfl (ld1 Try.underlying3 rfl (bx1 (B.get 0 rfl) rfl rfl))) ?_
          refine stp (v := Sl.v y70) rfl rfl (r_move rfl rfl) ?_
          refine stpc rfl rfl (r_call (vs := [.agg #[Sl.v a0_0, Sl.v a0_1, .int .i64 a0_2], .int .i64 x104, .int .i64 a0_2, Sl.v y70]) rfl rfl (ca36 _ _)) ?_
          refine at_call B H (fun y109 w B H => ?_)
          refine stp (v := .bool (!y109)) rfl rfl (r_not (b := y109) rfl rfl) ?_
          refine fin ?_
          refine n106 _ _ ?_
          refine c_cond (b := !y109) rfl (fun hb110 => ?_) (fun hb110 => ?_)
          · replace H := at_itet hb110 H
            refine c_seq (fun Q113 n111 o112 => ?_)
            refine c_region ?_
            refine stp (v := .bool false) rfl rfl (r_assign rfl rfl) ?_
            refine fin ?_
            refine n111 _ _ ?_
            refine c_ret (o96 _ _ _ nofun (by simp) (o93 _ _ _ nofun (o82 _ _ _ nofun (o78 _ _ _ nofun (by simp) (o72 _ _ _ nofun ((done (vs := [.bool false]) (.tmp rfl .nil) rfl ⟨_, rfl, H.now⟩)))))))
          · replace H := at_itef hb110 H
            refine c_skip ?_
            refine n95 _ _ ?_
            refine n92 _ _ ?_
            refine c_region ?_
            refine stp (v := .int .i64 (IntKind.i64.wrap (s3_54 + 1))) rfl rfl (r_add (a := s3_54) (b := 1) rfl rfl rfl) ?_
            refine stp (v := .int .i64 (IntKind.i64.wrap (s3_54 + 1))) rfl rfl (r_move rfl rfl) ?_
            refine fin ?_
            exact nx81 (IntKind.i64.wrap (s3_54 + 1)) _ _ _ B H rfl
        · replace H := at_itef hb91 H
          refine c_exit (o89 _ _ _ nofun (o82 _ _ _ nofun (x79 _ _ ?_)))
          refine n71 _ _ ?_
          refine c_seq (fun Q116 n114 o115 => ?_)
          refine c_seq (fun Q119 n117 o118 => ?_)
          refine c_region ?_
          refine stp (v := .pointer (some ⟨g5, 0, none⟩)) rfl rfl (r_fieldAddr (v1 := .pointer (some ⟨g5, 0, none⟩)) rfl rfl (fld26_0 _ _)) ?_
          refine stp (v := Sl.v a0_0) rfl rfl (r_load (v1 := .pointer (some ⟨g5, 0, none⟩)) rfl rfl (ld1 Try.underlying23 rfl (bx1 (B.get 0 rfl) rfl rfl))) ?_
          refine stp (v := .int .i64 (a0_0.n : Int)) rfl rfl (r_builtin (vs := [Sl.v a0_0]) rfl rfl (fun _ => lenl Try.underlying23)) ?_
          refine stp (v := .int .i64 0) rfl rfl (r_move rfl rfl) ?_
          refine fin ?_
          refine n117 _ _ ?_
          refine c_block (fun Q123 n120 x122 o121 => ?_)
          refine c_loop (σ := Int) (s0 := 0) (fun s => [(3, Sl.v y23), (67, Sl.v a0_0), (68, .int .i64 (a0_0.n : Int)), (69, .int .i64 s)]) (fun s => [⟨g5, 26, #[Sl.v a0_0, Sl.v a0_1, .int .i64 a0_2]⟩]) B H rfl ?_
          rintro Q126 next127 s4_69 g w N nx124 o125 B H
          refine c_seq (fun Q130 n128 o129 => ?_)
          refine c_region ?_
          refine stp (v := .bool (decide (s4_69 < (a0_0.n : Int)))) rfl rfl (r_lss (a := s4_69) (b := (a0_0.n : Int)) rfl rfl rfl) ?_
          refine fin ?_
          refine n128 _ _ ?_
          refine c_seq (fun Q133 n131 o132 => ?_)
          refine c_cond (b := decide (s4_69 < (a0_0.n : Int))) rfl (fun hb134 => ?_) (fun hb134 => ?_)
          · replace H := at_itet hb134 H
            refine c_skip ?_
            refine n131 _ _ ?_
            refine c_seq (fun Q137 n135 o136 => ?_)
            refine c_block (fun Q141 n138 x140 o139 => ?_)
            refine c_seq (fun Q144 n142 o143 => ?_)
            refine c_region ?_
            refine stp (v := .int .i64 s4_69) rfl rfl (r_move rfl rfl) ?_
            obtain ⟨p145, p146, he, h0, h1, hpa, H'⟩ := at_idx' H
            replace H := H'; clear H'
            refine stp (v := .pointer (some p146)) rfl rfl (r_indexAddr (v1 := Sl.v a0_0) (v2 := .int .i64 s4_69) rfl rfl rfl (ix' Try.underlying23 sz70 he h0 h1 hpa)) ?_
            clear he h0 h1 hpa
            obtain ⟨x147_0, hx148, H'⟩ := at_ldc H
            replace H := H'; clear H'
            obtain ⟨x147_1, hx149, H'⟩ := at_ldc H
            replace H := H'; clear H'
            obtain ⟨x147_2, hx150, H'⟩ := at_ldc H
            replace H := H'; clear H'
            refine stp (v := .agg #[.int .i64 x147_0, .string x147_1, Sl.v x147_2]) rfl rfl (r_load (v1 := .pointer (some p146)) rfl rfl (ldn (cs := [.int .i64 x147_0, .string x147_1, Sl.v x147_2]) Try.underlying70 rfl sz70 (cells_start (cells_cons (m := 0) (hx148 _ (Below.refl _ _)) (cells_cons (m := 1) (hx149 _ (Below.refl _ _)) (cells_cons (m := 2) (hx150 _ (Below.refl _ _)) cells_nil)))))) ?_
            obtain ⟨w151, N, g152, hw, hg, B, H⟩ := B.new H 70 #[.int .i64 0, .string (⟨#[]⟩ : ByteArray), Sl.v Sl.nil]
            refine stp (v := .pointer (some ⟨g152, 0, none⟩)) (w' := w151) rfl rfl (r_alloc rfl (alloc_run (al70 _) hw hg)) ?_
            clear hw hg
            refine stp (v := .int .i64 s4_69) rfl rfl (r_assign rfl rfl) ?_
            obtain ⟨w2, hr, B, H⟩ := B.stn H (i := 0) (T := 70) (cs' := #[.int .i64 x147_0, .string x147_1, Sl.v x147_2]) (ad := ⟨g152, 0, none⟩) rfl rfl rfl rfl sz70
            refine stp0 rfl rfl (r_store (v1 := .pointer (some ⟨g152, 0, none⟩)) (v2 := .agg #[.int .i64 x147_0, .string x147_1, Sl.v x147_2]) rfl rfl rfl hr) ?_
            replace B : Bx _ _ [⟨g152, 70, #[.int .i64 x147_0, .string x147_1, Sl.v x147_2]⟩, ⟨g5, 26, #[Sl.v a0_0, Sl.v a0_1, .int .i64 a0_2]⟩] := B
            clear hr
            refine fin ?_
            refine n142 _ _ ?_
            refine c_seqj (fun a w => ∃ (j5_96 : Bool) (g : Nat → Value) (N : NP), a = A 98 (updl g [(3, Sl.v y23), (67, Sl.v a0_0), (68, .int .i64 (a0_0.n : Int)), (69, .int .i64 s4_69), (96, .bool j5_96)]) ∧ Bx w N [⟨g152, 70, #[.int .i64 x147_0, .string x147_1, Sl.v x147_2]⟩, ⟨g5, 26, #[Sl.v a0_0, Sl.v a0_1, .int .i64 a0_2]⟩] ∧ Aft w N (f9_spec_GoodCow.J5 R (fun (z0 : Int) => next127 z0) s4_69 j5_96)) (fun Q155 n153 o154 => ?_) ?_
            ·
              refine c_quiet rfl (by kernel_rfl) ?_
              refine qstp (v := .pointer (some ⟨g152, 0, none⟩)) rfl rfl (fun w_ hb_ => (r_fieldAddr (v1 := .pointer (some ⟨g152, 0, none⟩)) rfl rfl (fld70_0 _ _))) ?_
              refine qstp (v := .int .i64 x147_0) rfl rfl (fun w_ hb_ => (r_load (v1 := .pointer (some ⟨g152, 0, none⟩)) rfl rfl (ld1 Try.underlying3 rfl (bx1 ((B.quiet (Qt.of_below hb_)).get 0 rfl) rfl rfl)))) ?_
              refine qstp (v := Sl.v y23) rfl rfl (fun w_ hb_ => (r_move rfl rfl)) ?_
              refine qstp (v := .int .i64 s4_69) rfl rfl (fun w_ hb_ => (r_move rfl rfl)) ?_
              obtain ⟨p156, p157, he, h0, h1, hpa, H'⟩ := at_idx' H
              replace H := H'; clear H'
              refine qstp (v := .pointer (some p157)) rfl rfl (fun w_ hb_ => (r_indexAddr (v1 := Sl.v y23) (v2 := .int .i64 s4_69) rfl rfl rfl (ix' Try.underlying24 sz3 he h0 h1 hpa))) ?_
              clear he h0 h1 hpa
              obtain ⟨x158, hx159, H'⟩ := at_ldc H
              replace H := H'; clear H'
              refine qstp (v := .int .i64 x158) rfl rfl (fun w_ hb_ => (r_load (v1 := .pointer (some p157)) rfl rfl (ld1 Try.underlying3 rfl (hx159 _ hb_)))) ?_
              refine qstp (v := .bool (x147_0 != x158)) rfl rfl (fun w_ hb_ => (r_neq (a := x147_0) (b := x158) rfl rfl rfl)) ?_
              refine qstp (v := .bool (x147_0 != x158)) rfl rfl (fun w_ hb_ => (r_move rfl rfl)) ?_
              rcases Bool.eq_false_or_eq_true (x147_0 != x158) with hb160 | hb160
              · replace H := at_itet hb160 H
                refine qskp (un rfl rfl rfl rfl (congrArg Value.bool hb160) nofun) rfl ?_
                refine qskp (un rfl rfl rfl rfl (congrArg Value.bool hb160) nofun) rfl ?_
                refine qskp (un rfl rfl rfl rfl (congrArg Value.bool hb160) nofun) rfl ?_
                refine qskp (un rfl rfl rfl rfl (congrArg Value.bool hb160) nofun) rfl ?_
                refine qskp (un_undef rfl rfl rfl rfl rfl) rfl ?_
                refine qskp (un_undef rfl rfl rfl rfl rfl) rfl ?_
                refine qskp (un_undef rfl rfl rfl rfl rfl) rfl ?_
                refine qskp (un_undef rfl rfl rfl rfl rfl) rfl ?_
                refine qskp (un_undef rfl rfl rfl rfl rfl) rfl ?_
                refine qskp (un_undef rfl rfl rfl rfl rfl) rfl ?_
                refine qskp (un_undef rfl rfl rfl rfl rfl) rfl ?_
                refine qskp (un_undef rfl rfl rfl rfl rfl) rfl ?_
                refine qskp (un_undef rfl rfl rfl rfl rfl) rfl ?_
                refine qskp (un rfl rfl rfl rfl (congrArg Value.bool hb160) nofun) rfl ?_
                refine qstp (v := .bool true) rfl rfl (fun w_ hb_ => (r_pickt rfl (congrArg Value.bool hb160) rfl)) ?_
                refine qfin (fun w hb => ?_)
                replace B := B.quiet (Qt.of_below hb)
                replace H := H.step (Nz.of_below hb)
                exact n153 _ _ ⟨true, _, _, fr_self rfl, B, H⟩
              · replace H := at_itef hb160 H
                refine qstp (v := .pointer (some ⟨g152, 0, none⟩)) (wn rfl rfl rfl rfl (congrArg Value.bool hb160)) rfl (fun w_ hb_ => (r_fieldAddr (v1 := .pointer (some ⟨g152, 0, none⟩)) rfl rfl (fld70_0 _ _))) ?_
                refine qstp (v := .int .i64 x147_0) (wn rfl rfl rfl rfl (congrArg Value.bool hb160)) rfl (fun w_ hb_ => (r_load (v1 := .pointer (some ⟨g152, 0, none⟩)) rfl rfl (ld1 Try.underlying3 rfl (bx1 ((B.quiet (Qt.of_below hb_)).get 0 rfl) rfl rfl)))) ?_
                refine qstp (v := .bool (x147_0 == 0)) (wn rfl rfl rfl rfl (congrArg Value.bool hb160)) rfl (fun w_ hb_ => (r_eql (a := x147_0) (b := 0) rfl rfl rfl)) ?_
                refine qstp (v := .bool (x147_0 == 0)) (wn rfl rfl rfl rfl (congrArg Value.bool hb160)) rfl (fun w_ hb_ => (r_move rfl rfl)) ?_
                rcases Bool.eq_false_or_eq_true (x147_0 == 0) with hb161 | hb161
                · replace H := at_itet hb161 H
                  refine qstp (v := .pointer (some ⟨g152, 1, none⟩)) (wn rfl rfl rfl rfl (congrArg Value.bool hb161)) rfl (fun w_ hb_ => (r_fieldAddr (v1 := .pointer (some ⟨g152, 0, none⟩)) rfl rfl (fld70_1 _ _))) ?_
                  refine qstp (v := .string x147_1) (wn rfl rfl rfl rfl (congrArg Value.bool hb161)) rfl (fun w_ hb_ => (r_load (v1 := .pointer (some ⟨g152, 1, none⟩)) rfl rfl (ld1 Try.underlying9 rfl (bx1 ((B.quiet (Qt.of_below hb_)).get 0 rfl) rfl rfl)))) ?_
                  refine qstp (v := .bool (!(x147_1.toList == (⟨#[]⟩ : ByteArray).toList))) (wn rfl rfl rfl rfl (congrArg Value.bool hb161)) rfl (fun w_ hb_ => (r_sneq (s := x147_1) (t := (⟨#[]⟩ : ByteArray)) rfl rfl rfl)) ?_
                  refine qstp (v := .bool (!(x147_1.toList == (⟨#[]⟩ : ByteArray).toList))) (wn rfl rfl rfl rfl (congrArg Value.bool hb161)) rfl (fun w_ hb_ => (r_move rfl rfl)) ?_
                  rcases Bool.eq_false_or_eq_true (!(x147_1.toList == (⟨#[]⟩ : ByteArray).toList)) with hb162 | hb162
                  · replace H := at_itet hb162 H
                    refine qskp (un rfl rfl rfl rfl (congrArg Value.bool hb162) nofun) rfl ?_
                    refine qskp (un rfl rfl rfl rfl (congrArg Value.bool hb162) nofun) rfl ?_
                    refine qskp (un rfl rfl rfl rfl (congrArg Value.bool hb162) nofun) rfl ?_
                    refine qskp (un rfl rfl rfl rfl (congrArg Value.bool hb162) nofun) rfl ?_
                    refine qstp (v := .bool true) (wn rfl rfl rfl rfl (congrArg Value.bool hb161)) rfl (fun w_ hb_ => (r_pickt rfl (congrArg Value.bool hb162) rfl)) ?_
                    refine qstp (v := .bool true) (wn rfl rfl rfl rfl (congrArg Value.bool hb160)) rfl (fun w_ hb_ => (r_pickt rfl (congrArg Value.bool hb161) rfl)) ?_
                    refine qstp (v := .bool true) rfl rfl (fun w_ hb_ => (r_pickf rfl (congrArg Value.bool hb160) rfl)) ?_
                    refine qfin (fun w hb => ?_)
                    replace B := B.quiet (Qt.of_below hb)
                    replace H := H.step (Nz.of_below hb)
                    exact n153 _ _ ⟨true, _, _, fr_self rfl, B, H⟩
                  · replace H := at_itef hb162 H
                    refine qstp (v := .pointer (some ⟨g152, 2, none⟩)) (wn rfl rfl rfl rfl (congrArg Value.bool hb162)) rfl (fun w_ hb_ => (r_fieldAddr (v1 := .pointer (some ⟨g152, 0, none⟩)) rfl rfl (fld70_2 _ _))) ?_
                    refine qstp (v := Sl.v x147_2) (wn rfl rfl rfl rfl (congrArg Value.bool hb162)) rfl (fun w_ hb_ => (r_load (v1 := .pointer (some ⟨g152, 2, none⟩)) rfl rfl (ld1 Try.underlying24 rfl (bx1 ((B.quiet (Qt.of_below hb_)).get 0 rfl) rfl rfl)))) ?_
                    refine qstp (v := .int .i64 (x147_2.n : Int)) (wn rfl rfl rfl rfl (congrArg Value.bool hb162)) rfl (fun w_ hb_ => (r_builtin (vs := [Sl.v x147_2]) rfl rfl (fun _ => lenl Try.underlying24))) ?_
                    refine qstp (v := .bool (decide (0 < (x147_2.n : Int)))) (wn rfl rfl rfl rfl (congrArg Value.bool hb162)) rfl (fun w_ hb_ => (r_gtr (a := (x147_2.n : Int)) (b := 0) rfl rfl rfl)) ?_
                    refine qstp (v := .bool (decide (0 < (x147_2.n : Int)))) (wn rfl rfl rfl rfl (congrArg Value.bool hb161)) rfl (fun w_ hb_ => (r_pickf rfl (congrArg Value.bool hb162) rfl)) ?_
                    refine qstp (v := .bool (decide (0 < (x147_2.n : Int)))) (wn rfl rfl rfl rfl (congrArg Value.bool hb160)) rfl (fun w_ hb_ => (r_pickt rfl (congrArg Value.bool hb161) rfl)) ?_
                    refine qstp (v := .bool (decide (0 < (x147_2.n : Int)))) rfl rfl (fun w_ hb_ => (r_pickf rfl (congrArg Value.bool hb160) rfl)) ?_
                    refine qfin (fun w hb => ?_)
                    replace B := B.quiet (Qt.of_below hb)
                    replace H := H.step (Nz.of_below hb)
                    exact n153 _ _ ⟨decide (0 < (x147_2.n : Int)), _, _, fr_self rfl, B, H⟩
                · replace H := at_itef hb161 H
                  refine qskp (un rfl rfl rfl rfl (congrArg Value.bool hb161) nofun) rfl ?_
                  refine qskp (un rfl rfl rfl rfl (congrArg Value.bool hb161) nofun) rfl ?_
                  refine qskp (un rfl rfl rfl rfl (congrArg Value.bool hb161) nofun) rfl ?_
                  refine qskp (un rfl rfl rfl rfl (congrArg Value.bool hb161) nofun) rfl ?_
                  refine qskp (un_undef rfl rfl rfl rfl rfl) rfl ?_
                  refine qskp (un_undef rfl rfl rfl rfl rfl) rfl ?_
                  refine qskp (un_undef rfl rfl rfl rfl rfl) rfl ?_
                  refine qskp (un_undef rfl rfl rfl rfl rfl) rfl ?_
                  refine qskp (un rfl rfl rfl rfl (congrArg Value.bool hb161) nofun) rfl ?_
                  refine qstp (v := .bool false) (wn rfl rfl rfl rfl (congrArg Value.bool hb160)) rfl (fun w_ hb_ => (r_pickf rfl (congrArg Value.bool hb161) rfl)) ?_
                  refine qstp (v := .bool false) rfl rfl (fun w_ hb_ => (r_pickf rfl (congrArg Value.bool hb160) rfl)) ?_
                  refine qfin (fun w hb => ?_)
                  replace B := B.quiet (Qt.of_below hb)
                  replace H := H.step (Nz.of_below hb)
                  exact n153 _ _ ⟨false, _, _, fr_self rfl, B, H⟩
            ·
              rintro _ w ⟨j5_96, g, N, rfl, B, H⟩
              refine c_cond (b := j5_96) rfl (fun hb163 => ?_) (fun hb163 => ?_)
              · replace H := at_itet hb163 H
                refine c_seq (fun Q166 n164 o165 => ?_)
                refine c_region ?_
                refine stp (v := .bool false) rfl rfl (r_assign rfl rfl) ?_
                refine fin ?_
                refine n164 _ _ ?_
                refine c_ret (o139 _ _ _ nofun (by simp) (o136 _ _ _ nofun (o125 _ _ _ nofun (o121 _ _ _ nofun (by simp) (o115 _ _ _ nofun ((done (vs := [.bool false]) (.tmp rfl .nil) rfl ⟨_, rfl, H.now⟩)))))))
              · replace H := at_itef hb163 H
                refine c_skip ?_
                refine n138 _ _ ?_
                refine n135 _ _ ?_
                refine c_region ?_
                refine stp (v := .int .i64 (IntKind.i64.wrap (s4_69 + 1))) rfl rfl (r_add (a := s4_69) (b := 1) rfl rfl rfl) ?_
                refine stp (v := .int .i64 (IntKind.i64.wrap (s4_69 + 1))) rfl rfl (r_move rfl rfl) ?_
                refine fin ?_
                exact nx124 (IntKind.i64.wrap (s4_69 + 1)) _ _ _ (B.sub (List.Sublist.cons _ (List.Sublist.refl _))) H rfl
          · replace H := at_itef hb134 H
            refine c_exit (o132 _ _ _ nofun (o125 _ _ _ nofun (x122 _ _ ?_)))
            refine n114 _ _ ?_
            refine c_seq (fun Q169 n167 o168 => ?_)
            refine c_region ?_
            refine stp (v := .bool true) rfl rfl (r_assign rfl rfl) ?_
            refine fin ?_
            refine n167 _ _ ?_
            refine c_ret ((done (vs := [.bool true]) (.tmp rfl .nil) rfl ⟨_, rfl, H.now⟩))
def f10_impl_LeavesOf.L1 (R : Value → World → Prop) (a0_0 : Sl) (a0_1 : Sl) (a0_2 : Int) (a1 : Int) (y28 : Int) (s1_6 : Sl) (s1_15 : Int) (next36 : (Sl) → (Int) → Tm) : Tm :=
  T.ite (decide (s1_15 < y28)) (T.call Try.prog 25 [.agg #[Sl.v a0_0, Sl.v a0_1, .int .i64 a0_2], .int .i64 a1, .int .i64 s1_15] Value.string fun (y54 : ByteArray) => T.new (.cells #[.string y54] 9) fun (g56 : Nat) => T.run Try.prog (Builtin.append_ #[32, 32] 32 #[Sl.v s1_6, Sl.v (⟨some ⟨g56, 0, none⟩, 1, 1⟩ : Sl)]) Sl.v fun (y57 : Sl) => next36 y57 (IntKind.i64.wrap (s1_15 + 1))) (T.ret R (.tuple #[Sl.v s1_6, .bool true]))
def f10_impl_LeavesOf.T (R : Value → World → Prop) (a0_0 : Sl) (a0_1 : Sl) (a0_2 : Int) (a1 : Int) : Tm :=
  T.call Try.prog 21 [.agg #[Sl.v a0_0, Sl.v a0_1, .int .i64 a0_2], .int .i64 a1] Value.bool fun (y12 : Bool) => T.ite (!y12) (T.ret R (.tuple #[Sl.v Sl.nil, .bool false])) (T.new (.cells #[] 9) fun (g21 : Nat) => T.call Try.prog 23 [.agg #[Sl.v a0_0, Sl.v a0_1, .int .i64 a0_2]] (Value.int .i64) fun (y28 : Int) => T.loop (fun (s : Sl × Int) next => f10_impl_LeavesOf.L1 R a0_0 a0_1 a0_2 a1 y28 s.1 s.2 (fun (z0 : Sl) (z1 : Int) => next (z0, z1))) ((⟨some ⟨g21, 0, none⟩, 0, 0⟩ : Sl), 0))
set_option maxHeartbeats 4000000 in
set_option maxRecDepth 100000 in
theorem f10_impl_LeavesOf.ok (R : Value → World → Prop) (a0_0 : Sl) (a0_1 : Sl) (a0_2 : Int) (a1 : Int) (w : World) (h : Aft w (fun _ => False) (f10_impl_LeavesOf.T R a0_0 a0_1 a0_2 a1)) :
    Calls Try.prog 10 (List.toArray [.agg #[Sl.v a0_0, Sl.v a0_1, .int .i64 a0_2], .int .i64 a1]) w fun e w' => ∃ v, e = .returned v ∧ R v w' := by
  refine enter 27 Try.func10 rfl rfl rfl ?_
  have B := Bx.nil w
  have H := h
  clear h
  refine c_seq (fun Q3 n1 o2 => ?_)
  refine c_region ?_
  obtain ⟨w4, N, g5, hw, hg, B, H⟩ := B.new H 26 #[Sl.v a0_0, Sl.v a0_1, .int .i64 a0_2]
  refine stp (v := .pointer (some ⟨g5, 0, none⟩)) (w' := w4) rfl rfl (r_box (v1 := .agg #[Sl.v a0_0, Sl.v a0_1, .int .i64 a0_2]) rfl rfl (box_run rfl hw hg)) ?_
  clear hw hg
  refine stp (v := Sl.v Sl.nil) rfl rfl (r_assign rfl rfl) ?_
  refine stp (v := .bool false) rfl rfl (r_assign rfl rfl) ?_
  refine fin ?_
  refine n1 _ _ ?_
  refine c_seq (fun Q8 n6 o7 => ?_)
  refine c_seq (fun Q11 n9 o10 => ?_)
  refine c_region ?_
  refine stp (v := .agg #[Sl.v a0_0, Sl.v a0_1, .int .i64 a0_2]) rfl rfl (r_load (v1 := .pointer (some ⟨g5, 0, none⟩)) rfl rfl (bxn (B.get 0 rfl) Try.underlying26 rfl sz26)) ?_
  refine stp (v := .int .i64 a1) rfl rfl (r_move rfl rfl) ?_
  refine stpc rfl rfl (r_call (vs := [.agg #[Sl.v a0_0, Sl.v a0_1, .int .i64 a0_2], .int .i64 a1]) rfl rfl (ca21 _ _)) ?_
  refine at_call B H (fun y12 w B H => ?_)
  refine stp (v := .bool (!y12)) rfl rfl (r_not (b := y12) rfl rfl) ?_
  refine fin ?_
  refine n9 _ _ ?_
  refine c_cond (b := !y12) rfl (fun hb13 => ?_) (fun hb13 => ?_)
  · replace H := at_itet hb13 H
    refine c_seq (fun Q16 n14 o15 => ?_)
    refine c_region ?_
    refine stp (v := Sl.v Sl.nil) rfl rfl (r_assign rfl rfl) ?_
    refine stp (v := .bool false) rfl rfl (r_assign rfl rfl) ?_
    refine fin ?_
    refine n14 _ _ ?_
    refine c_ret (o7 _ _ _ nofun ((done (vs := [Sl.v Sl.nil, .bool false]) (.tmp rfl (.tmp rfl .nil)) rfl ⟨_, rfl, H.now⟩)))
  · replace H := at_itef hb13 H
    refine c_skip ?_
    refine n6 _ _ ?_
    refine c_seq (fun Q19 n17 o18 => ?_)
    refine c_region ?_
    obtain ⟨w20, g21, hw, hg, B, H⟩ := at_new' B H
    refine stp (v := Sl.v (⟨some ⟨g21, 0, none⟩, 0, 0⟩ : Sl)) (w' := w20) rfl rfl (r_buildSlice (qs := []) rfl rfl (bs_run (site4  _) hw hg)) ?_
    clear hw hg
    refine stp (v := Sl.v (⟨some ⟨g21, 0, none⟩, 0, 0⟩ : Sl)) rfl rfl (r_assign rfl rfl) ?_
    refine fin ?_
    refine n17 _ _ ?_
    refine c_seq (fun Q24 n22 o23 => ?_)
    refine c_seq (fun Q27 n25 o26 => ?_)
    refine c_region ?_
    refine stp (v := .agg #[Sl.v a0_0, Sl.v a0_1, .int .i64 a0_2]) rfl rfl (r_load (v1 := .pointer (some ⟨g5, 0, none⟩)) rfl rfl (bxn (B.get 0 rfl) Try.underlying26 rfl sz26)) ?_
    refine stpc rfl rfl (r_call (vs := [.agg #[Sl.v a0_0, Sl.v a0_1, .int .i64 a0_2]]) rfl rfl (ca23 _ _)) ?_
    refine at_call B H (fun y28 w B H => ?_)
    refine stp (v := .int .i64 0) rfl rfl (r_move rfl rfl) ?_
    refine fin ?_
    refine n25 _ _ ?_
    refine c_block (fun Q32 n29 x31 o30 => ?_)
    refine c_loop (σ := Sl × Int) (s0 := ((⟨some ⟨g21, 0, none⟩, 0, 0⟩ : Sl), 0)) (fun s => [(1, .int .i64 a1), (2, .pointer (some ⟨g5, 0, none⟩)), (6, Sl.v s.1), (14, .int .i64 y28), (15, .int .i64 s.2)]) (fun s => [⟨g5, 26, #[Sl.v a0_0, Sl.v a0_1, .int .i64 a0_2]⟩]) B H rfl ?_
    rintro Q35 next36 ⟨s1_6, s1_15⟩ g w N nx33 o34 B H
    refine c_seq (fun Q39 n37 o38 => ?_)
    refine c_region ?_
    refine stp (v := .bool (decide (s1_15 < y28))) rfl rfl (r_lss (a := s1_15) (b := y28) rfl rfl rfl) ?_
    refine fin ?_
    refine n37 _ _ ?_
    refine c_seq (fun Q42 n40 o41 => ?_)
    refine c_cond (b := decide (s1_15 < y28)) rfl (fun hb43 => ?_) (fun hb43 => ?_)
    · replace H := at_itet hb43 H
      refine c_skip ?_
      refine n40 _ _ ?_
      refine c_seq (fun Q46 n44 o45 => ?_)
      refine c_block (fun Q50 n47 x49 o48 => ?_)
      refine c_seq (fun Q53 n51 o52 => ?_)
      refine c_region ?_
      refine stp (v := .int .i64 s1_15) rfl rfl (r_move rfl rfl) ?_
      refine stp (v := .int .i64 s1_15) rfl rfl (r_assign rfl rfl) ?_
      refine fin ?_
      refine n51 _ _ ?_
      refine c_region ?_
      refine stp (v := Sl.v s1_6) rfl rfl (r_move rfl rfl) ?_
      refine stp (v := .agg #[Sl.v a0_0, Sl.v a0_1, .int .i64 a0_2]) rfl rfl (r_load (v1 := .pointer (some ⟨g5, 0, none⟩)) rfl rfl (bxn (B.get 0 rfl) Try.underlying26 rfl sz26)) ?_
      refine stp (v := .int .i64 a1) rfl rfl (r_move rfl rfl) ?_
      refine stp (v := .int .i64 s1_15) rfl rfl (r_move rfl rfl) ?_
      refine stpc rfl rfl (r_call (vs := [.agg #[Sl.v a0_0, Sl.v a0_1, .int .i64 a0_2], .int .i64 a1, .int .i64 s1_15]) rfl rfl (ca25 _ _)) ?_
      refine at_call B H (fun y54 w B H => ?_)
      obtain ⟨w55, g56, hw, hg, B, H⟩ := at_new' B H
      refine stp (v := Sl.v (⟨some ⟨g56, 0, none⟩, 1, 1⟩ : Sl)) (w' := w55) rfl rfl (r_buildSlice (qs := [(0, .string y54)]) rfl rfl (bs_run (site5 y54 _) hw hg)) ?_
      clear hw hg
      obtain ⟨y57, w2, hr, B, H⟩ := at_run B H
      refine stp (v := Sl.v y57) rfl rfl (r_builtin (vs := [Sl.v s1_6, Sl.v (⟨some ⟨g56, 0, none⟩, 1, 1⟩ : Sl)]) rfl rfl (fun _ => bi_append hr)) ?_
      clear hr
      refine stp (v := Sl.v y57) rfl rfl (r_assign rfl rfl) ?_
      refine fin ?_
      refine n47 _ _ ?_
      refine n44 _ _ ?_
      refine c_region ?_
      refine stp (v := .int .i64 (IntKind.i64.wrap (s1_15 + 1))) rfl rfl (r_add (a := s1_15) (b := 1) rfl rfl rfl) ?_
      refine stp (v := .int .i64 (IntKind.i64.wrap (s1_15 + 1))) rfl rfl (r_move rfl rfl) ?_
      refine fin ?_
      exact nx33 ⟨y57, IntKind.i64.wrap (s1_15 + 1)⟩ _ _ _ B H rfl
    · replace H := at_itef hb43 H
      refine c_exit (o41 _ _ _ nofun (o34 _ _ _ nofun (x31 _ _ ?_)))
      refine n22 _ _ ?_
      refine c_seq (fun Q60 n58 o59 => ?_)
      refine c_region ?_
      refine stp (v := Sl.v s1_6) rfl rfl (r_move rfl rfl) ?_
      refine stp (v := Sl.v s1_6) rfl rfl (r_assign rfl rfl) ?_
      refine stp (v := .bool true) rfl rfl (r_assign rfl rfl) ?_
      refine fin ?_
      refine n58 _ _ ?_
      refine c_ret ((done (vs := [Sl.v s1_6, .bool true]) (.tmp rfl (.tmp rfl .nil)) rfl ⟨_, rfl, H.now⟩))
def f11_impl_LeafAt.J1 (R : Value → World → Prop) (a0_0 : Sl) (a0_1 : Sl) (a0_2 : Int) (a1 : Int) (a2 : Int) (j1_19 : Bool) : Tm :=
  T.ite j1_19 (T.ret R (.tuple #[.string (⟨#[]⟩ : ByteArray), .bool false])) (T.call Try.prog 25 [.agg #[Sl.v a0_0, Sl.v a0_1, .int .i64 a0_2], .int .i64 a1, .int .i64 a2] Value.string fun (y23 : ByteArray) => T.ret R (.tuple #[.string y23, .bool true]))
def f11_impl_LeafAt.T (R : Value → World → Prop) (a0_0 : Sl) (a0_1 : Sl) (a0_2 : Int) (a1 : Int) (a2 : Int) : Tm :=
  T.call Try.prog 21 [.agg #[Sl.v a0_0, Sl.v a0_1, .int .i64 a0_2], .int .i64 a1] Value.bool fun (y12 : Bool) => T.ite (!y12) (f11_impl_LeafAt.J1 R a0_0 a0_1 a0_2 a1 a2 true) (T.call Try.prog 23 [.agg #[Sl.v a0_0, Sl.v a0_1, .int .i64 a0_2]] (Value.int .i64) fun (y14 : Int) => T.call Try.prog 22 [.int .i64 a2, .int .i64 0, .int .i64 (IntKind.i64.wrap (y14 - 1))] Value.bool fun (y15 : Bool) => f11_impl_LeafAt.J1 R a0_0 a0_1 a0_2 a1 a2 (!y15))
set_option maxHeartbeats 4000000 in
set_option maxRecDepth 100000 in
theorem f11_impl_LeafAt.ok (R : Value → World → Prop) (a0_0 : Sl) (a0_1 : Sl) (a0_2 : Int) (a1 : Int) (a2 : Int) (w : World) (h : Aft w (fun _ => False) (f11_impl_LeafAt.T R a0_0 a0_1 a0_2 a1 a2)) :
    Calls Try.prog 11 (List.toArray [.agg #[Sl.v a0_0, Sl.v a0_1, .int .i64 a0_2], .int .i64 a1, .int .i64 a2]) w fun e w' => ∃ v, e = .returned v ∧ R v w' := by
  refine enter 24 Try.func11 rfl rfl rfl ?_
  have B := Bx.nil w
  have H := h
  clear h
  refine c_seq (fun Q3 n1 o2 => ?_)
  refine c_region ?_
  obtain ⟨w4, N, g5, hw, hg, B, H⟩ := B.new H 26 #[Sl.v a0_0, Sl.v a0_1, .int .i64 a0_2]
  refine stp (v := .pointer (some ⟨g5, 0, none⟩)) (w' := w4) rfl rfl (r_box (v1 := .agg #[Sl.v a0_0, Sl.v a0_1, .int .i64 a0_2]) rfl rfl (box_run rfl hw hg)) ?_
  clear hw hg
  refine stp (v := .string (⟨#[]⟩ : ByteArray)) rfl rfl (r_assign rfl rfl) ?_
  refine stp (v := .bool false) rfl rfl (r_assign rfl rfl) ?_
  refine fin ?_
  refine n1 _ _ ?_
  refine c_seq (fun Q8 n6 o7 => ?_)
  refine c_seqj (fun a w => ∃ (j1_19 : Bool) (g : Nat → Value) (N : NP), a = A 24 (updl g [(1, .int .i64 a1), (2, .int .i64 a2), (3, .pointer (some ⟨g5, 0, none⟩)), (19, .bool j1_19)]) ∧ Bx w N [⟨g5, 26, #[Sl.v a0_0, Sl.v a0_1, .int .i64 a0_2]⟩] ∧ Aft w N (f11_impl_LeafAt.J1 R a0_0 a0_1 a0_2 a1 a2 j1_19)) (fun Q11 n9 o10 => ?_) ?_
  ·
    refine c_region ?_
    refine stp (v := .agg #[Sl.v a0_0, Sl.v a0_1, .int .i64 a0_2]) rfl rfl (r_load (v1 := .pointer (some ⟨g5, 0, none⟩)) rfl rfl (bxn (B.get 0 rfl) Try.underlying26 rfl sz26)) ?_
    refine stp (v := .int .i64 a1) rfl rfl (r_move rfl rfl) ?_
    refine stpc rfl rfl (r_call (vs := [.agg #[Sl.v a0_0, Sl.v a0_1, .int .i64 a0_2], .int .i64 a1]) rfl rfl (ca21 _ _)) ?_
    refine at_call B H (fun y12 w B H => ?_)
    refine stp (v := .bool (!y12)) rfl rfl (r_not (b := y12) rfl rfl) ?_
    refine stp (v := .bool (!y12)) rfl rfl (r_move rfl rfl) ?_
    rcases Bool.eq_false_or_eq_true (!y12) with hb13 | hb13
    · replace H := at_itet hb13 H
      refine skp (un rfl rfl rfl rfl (congrArg Value.bool hb13) nofun) rfl ?_
      refine skp (un rfl rfl rfl rfl (congrArg Value.bool hb13) nofun) rfl ?_
      refine skp (un rfl rfl rfl rfl (congrArg Value.bool hb13) nofun) rfl ?_
      refine skp (un rfl rfl rfl rfl (congrArg Value.bool hb13) nofun) rfl ?_
      refine skp (un rfl rfl rfl rfl (congrArg Value.bool hb13) nofun) rfl ?_
      refine skp (un rfl rfl rfl rfl (congrArg Value.bool hb13) nofun) rfl ?_
      refine stp (v := .bool true) rfl rfl (r_pickt rfl (congrArg Value.bool hb13) rfl) ?_
      refine fin ?_
      exact n9 _ _ ⟨true, _, _, fr_self rfl, B, H⟩
    · replace H := at_itef hb13 H
      refine stp (v := .int .i64 a2) (wn rfl rfl rfl rfl (congrArg Value.bool hb13)) rfl (r_move rfl rfl) ?_
      refine stp (v := .agg #[Sl.v a0_0, Sl.v a0_1, .int .i64 a0_2]) (wn rfl rfl rfl rfl (congrArg Value.bool hb13)) rfl (r_load (v1 := .pointer (some ⟨g5, 0, none⟩)) rfl rfl (bxn (B.get 0 rfl) Try.underlying26 rfl sz26)) ?_
      refine stpc (wn rfl rfl rfl rfl (congrArg Value.bool hb13)) rfl (r_call (vs := [.agg #[Sl.v a0_0, Sl.v a0_1, .int .i64 a0_2]]) rfl rfl (ca23 _ _)) ?_
      refine at_call B H (fun y14 w B H => ?_)
      refine stp (v := .int .i64 (IntKind.i64.wrap (y14 - 1))) (wn rfl rfl rfl rfl (congrArg Value.bool hb13)) rfl (r_sub (a := y14) (b := 1) rfl rfl rfl) ?_
      refine stpc (wn rfl rfl rfl rfl (congrArg Value.bool hb13)) rfl (r_call (vs := [.int .i64 a2, .int .i64 0, .int .i64 (IntKind.i64.wrap (y14 - 1))]) rfl rfl (ca22 _ _)) ?_
      refine at_call B H (fun y15 w B H => ?_)
      refine stp (v := .bool (!y15)) (wn rfl rfl rfl rfl (congrArg Value.bool hb13)) rfl (r_not (b := y15) rfl rfl) ?_
      refine stp (v := .bool (!y15)) rfl rfl (r_pickf rfl (congrArg Value.bool hb13) rfl) ?_
      refine fin ?_
      exact n9 _ _ ⟨!y15, _, _, fr_self rfl, B, H⟩
  ·
    rintro _ w ⟨j1_19, g, N, rfl, B, H⟩
    refine c_cond (b := j1_19) rfl (fun hb16 => ?_) (fun hb16 => ?_)
    · replace H := at_itet hb16 H
      refine c_seq (fun Q19 n17 o18 => ?_)
      refine c_region ?_
      refine stp (v := .string (⟨#[]⟩ : ByteArray)) rfl rfl (r_assign rfl rfl) ?_
      refine stp (v := .bool false) rfl rfl (r_assign rfl rfl) ?_
      refine fin ?_
      refine n17 _ _ ?_
      refine c_ret (o7 _ _ _ nofun ((done (vs := [.string (⟨#[]⟩ : ByteArray), .bool false]) (.tmp rfl (.tmp rfl .nil)) rfl ⟨_, rfl, H.now⟩)))
    · replace H := at_itef hb16 H
      refine c_skip ?_
      refine n6 _ _ ?_
      refine c_seq (fun Q22 n20 o21 => ?_)
      refine c_region ?_
      refine stp (v := .agg #[Sl.v a0_0, Sl.v a0_1, .int .i64 a0_2]) rfl rfl (r_load (v1 := .pointer (some ⟨g5, 0, none⟩)) rfl rfl (bxn (B.get 0 rfl) Try.underlying26 rfl sz26)) ?_
      refine stp (v := .int .i64 a1) rfl rfl (r_move rfl rfl) ?_
      refine stp (v := .int .i64 a2) rfl rfl (r_move rfl rfl) ?_
      refine stpc rfl rfl (r_call (vs := [.agg #[Sl.v a0_0, Sl.v a0_1, .int .i64 a0_2], .int .i64 a1, .int .i64 a2]) rfl rfl (ca25 _ _)) ?_
      refine at_call B H (fun y23 w B H => ?_)
      refine stp (v := .string y23) rfl rfl (r_assign rfl rfl) ?_
      refine stp (v := .bool true) rfl rfl (r_assign rfl rfl) ?_
      refine fin ?_
      refine n20 _ _ ?_
      refine c_ret ((done (vs := [.string y23, .bool true]) (.tmp rfl (.tmp rfl .nil)) rfl ⟨_, rfl, H.now⟩))
def f12_impl_UsedCells.J2 (R : Value → World → Prop) (next33 : (Int) → (Int) → Tm) (s1_13 : Int) (j2_4 : Int) : Tm :=
  next33 j2_4 (IntKind.i64.wrap (s1_13 + 1))
def f12_impl_UsedCells.L1 (R : Value → World → Prop) (a0_0 : Sl) (s1_4 : Int) (s1_13 : Int) (next33 : (Int) → (Int) → Tm) : Tm :=
  T.ite (decide (s1_13 < (a0_0.n : Int))) (T.idx a0_0 s1_13 3 fun (p52 : Addr) => T.ldc (p52.add 0) (Value.int .i64) fun (x53_0 : Int) => T.ldc (p52.add 1) Value.string fun (x53_1 : ByteArray) => T.ldc (p52.add 2) Sl.v fun (x53_2 : Sl) => T.ite (decide (0 < x53_0)) (f12_impl_UsedCells.J2 R next33 s1_13 (IntKind.i64.wrap (s1_4 + 1))) (f12_impl_UsedCells.J2 R next33 s1_13 s1_4)) (T.ret R (.tuple #[.int .i64 s1_4, .bool true]))
def f12_impl_UsedCells.T (R : Value → World → Prop) (a0_0 : Sl) (a0_1 : Sl) (a0_2 : Int) : Tm :=
  T.call Try.prog 8 [.agg #[Sl.v a0_0, Sl.v a0_1, .int .i64 a0_2]] Value.bool fun (y12 : Bool) => T.ite (!y12) (T.ret R (.tuple #[.int .i64 0, .bool false])) (T.loop (fun (s : Int × Int) next => f12_impl_UsedCells.L1 R a0_0 s.1 s.2 (fun (z0 : Int) (z1 : Int) => next (z0, z1))) (0, 0))
set_option maxHeartbeats 4000000 in
set_option maxRecDepth 100000 in
theorem f12_impl_UsedCells.ok (R : Value → World → Prop) (a0_0 : Sl) (a0_1 : Sl) (a0_2 : Int) (w : World) (h : Aft w (fun _ => False) (f12_impl_UsedCells.T R a0_0 a0_1 a0_2)) :
    Calls Try.prog 12 (List.toArray [.agg #[Sl.v a0_0, Sl.v a0_1, .int .i64 a0_2]]) w fun e w' => ∃ v, e = .returned v ∧ R v w' := by
  refine enter 24 Try.func12 rfl rfl rfl ?_
  have B := Bx.nil w
  have H := h
  clear h
  refine c_seq (fun Q3 n1 o2 => ?_)
  refine c_region ?_
  obtain ⟨w4, N, g5, hw, hg, B, H⟩ := B.new H 26 #[Sl.v a0_0, Sl.v a0_1, .int .i64 a0_2]
  refine stp (v := .pointer (some ⟨g5, 0, none⟩)) (w' := w4) rfl rfl (r_box (v1 := .agg #[Sl.v a0_0, Sl.v a0_1, .int .i64 a0_2]) rfl rfl (box_run rfl hw hg)) ?_
  clear hw hg
  refine stp (v := .int .i64 0) rfl rfl (r_assign rfl rfl) ?_
  refine stp (v := .bool false) rfl rfl (r_assign rfl rfl) ?_
  refine fin ?_
  refine n1 _ _ ?_
  refine c_seq (fun Q8 n6 o7 => ?_)
  refine c_seq (fun Q11 n9 o10 => ?_)
  refine c_region ?_
  refine stp (v := .agg #[Sl.v a0_0, Sl.v a0_1, .int .i64 a0_2]) rfl rfl (r_load (v1 := .pointer (some ⟨g5, 0, none⟩)) rfl rfl (bxn (B.get 0 rfl) Try.underlying26 rfl sz26)) ?_
  refine stpc rfl rfl (r_call (vs := [.agg #[Sl.v a0_0, Sl.v a0_1, .int .i64 a0_2]]) rfl rfl (ca8 _ _)) ?_
  refine at_call B H (fun y12 w B H => ?_)
  refine stp (v := .bool (!y12)) rfl rfl (r_not (b := y12) rfl rfl) ?_
  refine fin ?_
  refine n9 _ _ ?_
  refine c_cond (b := !y12) rfl (fun hb13 => ?_) (fun hb13 => ?_)
  · replace H := at_itet hb13 H
    refine c_seq (fun Q16 n14 o15 => ?_)
    refine c_region ?_
    refine stp (v := .int .i64 0) rfl rfl (r_assign rfl rfl) ?_
    refine stp (v := .bool false) rfl rfl (r_assign rfl rfl) ?_
    refine fin ?_
    refine n14 _ _ ?_
    refine c_ret (o7 _ _ _ nofun ((done (vs := [.int .i64 0, .bool false]) (.tmp rfl (.tmp rfl .nil)) rfl ⟨_, rfl, H.now⟩)))
  · replace H := at_itef hb13 H
    refine c_skip ?_
    refine n6 _ _ ?_
    refine c_seq (fun Q19 n17 o18 => ?_)
    refine c_region ?_
    refine stp (v := .int .i64 0) rfl rfl (r_assign rfl rfl) ?_
    refine fin ?_
    refine n17 _ _ ?_
    refine c_seq (fun Q22 n20 o21 => ?_)
    refine c_seq (fun Q25 n23 o24 => ?_)
    refine c_region ?_
    refine stp (v := .pointer (some ⟨g5, 0, none⟩)) rfl rfl (r_fieldAddr (v1 := .pointer (some ⟨g5, 0, none⟩)) rfl rfl (fld26_0 _ _)) ?_
    refine stp (v := Sl.v a0_0) rfl rfl (r_load (v1 := .pointer (some ⟨g5, 0, none⟩)) rfl rfl (ld1 Try.underlying23 rfl (bx1 (B.get 0 rfl) rfl rfl))) ?_
    refine stp (v := .int .i64 (a0_0.n : Int)) rfl rfl (r_builtin (vs := [Sl.v a0_0]) rfl rfl (fun _ => lenl Try.underlying23)) ?_
    refine stp (v := .int .i64 0) rfl rfl (r_move rfl rfl) ?_
    refine fin ?_
    refine n23 _ _ ?_
    refine c_block (fun Q29 n26 x28 o27 => ?_)
    refine c_loop (σ := Int × Int) (s0 := (0, 0)) (fun s => [(4, .int .i64 s.1), (11, Sl.v a0_0), (12, .int .i64 (a0_0.n : Int)), (13, .int .i64 s.2)]) (fun s => [⟨g5, 26, #[Sl.v a0_0, Sl.v a0_1, .int .i64 a0_2]⟩]) B H rfl ?_
    rintro Q32 next33 ⟨s1_4, s1_13⟩ g w N nx30 o31 B H
    refine c_seq (fun Q36 n34 o35 => ?_)
    refine c_region ?_
    refine stp (v := .bool (decide (s1_13 < (a0_0.n : Int)))) rfl rfl (r_lss (a := s1_13) (b := (a0_0.n : Int)) rfl rfl rfl) ?_
    refine fin ?_
    refine n34 _ _ ?_
    refine c_seq (fun Q39 n37 o38 => ?_)
    refine c_cond (b := decide (s1_13 < (a0_0.n : Int))) rfl (fun hb40 => ?_) (fun hb40 => ?_)
    · replace H := at_itet hb40 H
      refine c_skip ?_
      refine n37 _ _ ?_
      refine c_seqj (fun a w => ∃ (j2_4 : Int) (g : Nat → Value) (N : NP), a = A 24 (updl g [(4, .int .i64 j2_4), (11, Sl.v a0_0), (12, .int .i64 (a0_0.n : Int)), (13, .int .i64 s1_13)]) ∧ Bx w N [⟨g5, 26, #[Sl.v a0_0, Sl.v a0_1, .int .i64 a0_2]⟩] ∧ Aft w N (f12_impl_UsedCells.J2 R (fun (z0 : Int) (z1 : Int) => next33 (z0, z1)) s1_13 j2_4)) (fun Q43 n41 o42 => ?_) ?_
      ·
        refine c_block (fun Q47 n44 x46 o45 => ?_)
        refine c_seq (fun Q50 n48 o49 => ?_)
        refine c_region ?_
        obtain ⟨p51, p52, he, h0, h1, hpa, H'⟩ := at_idx' H
        replace H := H'; clear H'
        refine stp (v := .pointer (some p52)) rfl rfl (r_indexAddr (v1 := Sl.v a0_0) (v2 := .int .i64 s1_13) rfl rfl rfl (ix' Try.underlying23 sz70 he h0 h1 hpa)) ?_
        clear he h0 h1 hpa
        obtain ⟨x53_0, hx54, H'⟩ := at_ldc H
        replace H := H'; clear H'
        obtain ⟨x53_1, hx55, H'⟩ := at_ldc H
        replace H := H'; clear H'
        obtain ⟨x53_2, hx56, H'⟩ := at_ldc H
        replace H := H'; clear H'
        refine stp (v := .agg #[.int .i64 x53_0, .string x53_1, Sl.v x53_2]) rfl rfl (r_load (v1 := .pointer (some p52)) rfl rfl (ldn (cs := [.int .i64 x53_0, .string x53_1, Sl.v x53_2]) Try.underlying70 rfl sz70 (cells_start (cells_cons (m := 0) (hx54 _ (Below.refl _ _)) (cells_cons (m := 1) (hx55 _ (Below.refl _ _)) (cells_cons (m := 2) (hx56 _ (Below.refl _ _)) cells_nil)))))) ?_
        obtain ⟨w57, N, g58, hw, hg, B, H⟩ := B.new H 70 #[.int .i64 0, .string (⟨#[]⟩ : ByteArray), Sl.v Sl.nil]
        refine stp (v := .pointer (some ⟨g58, 0, none⟩)) (w' := w57) rfl rfl (r_alloc rfl (alloc_run (al70 _) hw hg)) ?_
        clear hw hg
        obtain ⟨w2, hr, B, H⟩ := B.stn H (i := 0) (T := 70) (cs' := #[.int .i64 x53_0, .string x53_1, Sl.v x53_2]) (ad := ⟨g58, 0, none⟩) rfl rfl rfl rfl sz70
        refine stp0 rfl rfl (r_store (v1 := .pointer (some ⟨g58, 0, none⟩)) (v2 := .agg #[.int .i64 x53_0, .string x53_1, Sl.v x53_2]) rfl rfl rfl hr) ?_
        replace B : Bx _ _ [⟨g58, 70, #[.int .i64 x53_0, .string x53_1, Sl.v x53_2]⟩, ⟨g5, 26, #[Sl.v a0_0, Sl.v a0_1, .int .i64 a0_2]⟩] := B
        clear hr
        refine fin ?_
        refine n48 _ _ ?_
        refine c_seq (fun Q61 n59 o60 => ?_)
        refine c_region ?_
        refine stp (v := .pointer (some ⟨g58, 0, none⟩)) rfl rfl (r_fieldAddr (v1 := .pointer (some ⟨g58, 0, none⟩)) rfl rfl (fld70_0 _ _)) ?_
        refine stp (v := .int .i64 x53_0) rfl rfl (r_load (v1 := .pointer (some ⟨g58, 0, none⟩)) rfl rfl (ld1 Try.underlying3 rfl (bx1 (B.get 0 rfl) rfl rfl))) ?_
        refine stp (v := .bool (decide (0 < x53_0))) rfl rfl (r_gtr (a := x53_0) (b := 0) rfl rfl rfl) ?_
        refine fin ?_
        refine n59 _ _ ?_
        refine c_cond (b := decide (0 < x53_0)) rfl (fun hb62 => ?_) (fun hb62 => ?_)
        · replace H := at_itet hb62 H
          refine c_region ?_
          refine stp (v := .int .i64 s1_4) rfl rfl (r_move rfl rfl) ?_
          refine stp (v := .int .i64 (IntKind.i64.wrap (s1_4 + 1))) rfl rfl (r_add (a := s1_4) (b := 1) rfl rfl rfl) ?_
          refine stp (v := .int .i64 (IntKind.i64.wrap (s1_4 + 1))) rfl rfl (r_assign rfl rfl) ?_
          refine fin ?_
          refine n44 _ _ ?_
          exact n41 _ _ ⟨IntKind.i64.wrap (s1_4 + 1), _, _, fr_self rfl, (B.sub (List.Sublist.cons _ (List.Sublist.refl _))), H⟩
        · replace H := at_itef hb62 H
          refine c_skip ?_
          refine n44 _ _ ?_
          exact n41 _ _ ⟨s1_4, _, _, fr_self rfl, (B.sub (List.Sublist.cons _ (List.Sublist.refl _))), H⟩
      ·
        rintro _ w ⟨j2_4, g, N, rfl, B, H⟩
        refine c_region ?_
        refine stp (v := .int .i64 (IntKind.i64.wrap (s1_13 + 1))) rfl rfl (r_add (a := s1_13) (b := 1) rfl rfl rfl) ?_
        refine stp (v := .int .i64 (IntKind.i64.wrap (s1_13 + 1))) rfl rfl (r_move rfl rfl) ?_
        refine fin ?_
        exact nx30 ⟨j2_4, IntKind.i64.wrap (s1_13 + 1)⟩ _ _ _ B H rfl
    · replace H := at_itef hb40 H
      refine c_exit (o38 _ _ _ nofun (o31 _ _ _ nofun (x28 _ _ ?_)))
      refine n20 _ _ ?_
      refine c_seq (fun Q65 n63 o64 => ?_)
      refine c_region ?_
      refine stp (v := .int .i64 s1_4) rfl rfl (r_move rfl rfl) ?_
      refine stp (v := .int .i64 s1_4) rfl rfl (r_assign rfl rfl) ?_
      refine stp (v := .bool true) rfl rfl (r_assign rfl rfl) ?_
      refine fin ?_
      refine n63 _ _ ?_
      refine c_ret ((done (vs := [.int .i64 s1_4, .bool true]) (.tmp rfl (.tmp rfl .nil)) rfl ⟨_, rfl, H.now⟩))
def f18_spec_l1Cur_cow.J2 (R : Value → World → Prop) (next27 : (Int) → (Sl) → (Sl) → (Int) → Tm) (s1_5 : Int) (j2_b3_0 : Sl) (j2_b3_1 : Sl) (j2_b3_2 : Int) : Tm :=
  next27 (IntKind.i64.wrap (s1_5 - 1)) j2_b3_0 j2_b3_1 j2_b3_2
def f18_spec_l1Cur_cow.J3 (R : Value → World → Prop) (next27 : (Int) → (Sl) → (Sl) → (Int) → Tm) (s1_5 : Int) (s1_b3_0 : Sl) (s1_b3_1 : Sl) (s1_b3_2 : Int) (j3_7 : Bool) (j3_b6_0 : Sl) (j3_b6_1 : Sl) (j3_b6_2 : Int) : Tm :=
  T.ite j3_7 (f18_spec_l1Cur_cow.J2 R next27 s1_5 j3_b6_0 j3_b6_1 j3_b6_2) (f18_spec_l1Cur_cow.J2 R next27 s1_5 s1_b3_0 s1_b3_1 s1_b3_2)
def f18_spec_l1Cur_cow.J4 (R : Value → World → Prop) (s1_b3_0 : Sl) (s1_b3_1 : Sl) (j4_b3_2 : Int) : Tm :=
  T.ret R (.agg #[Sl.v s1_b3_0, Sl.v s1_b3_1, .int .i64 j4_b3_2])
def f18_spec_l1Cur_cow.L1 (R : Value → World → Prop) (a0 : (Option Addr)) (s1_5 : Int) (s1_b3_0 : Sl) (s1_b3_1 : Sl) (s1_b3_2 : Int) (next27 : (Int) → (Sl) → (Sl) → (Int) → Tm) : Tm :=
  T.ite (decide (0 < s1_5)) (T.call Try.prog 19 [.pointer a0, .int .i64 (s1_b3_1.n : Int)] (Value.int .i64) fun (y50 : Int) => T.call Try.prog 19 [.pointer a0, .int .i64 7] (Value.int .i64) fun (y57 : Int) => T.ite (y57 == 0) (T.call Try.prog 48 [.agg #[Sl.v s1_b3_0, Sl.v s1_b3_1, .int .i64 s1_b3_2], .int .i64 y50] (fun (z : Sl × Sl × Int × Bool) => .tuple #[.agg #[Sl.v z.1, Sl.v z.2.1, .int .i64 z.2.2.1], .bool z.2.2.2]) fun (y66 : Sl × Sl × Int × Bool) => f18_spec_l1Cur_cow.J3 R next27 s1_5 s1_b3_0 s1_b3_1 s1_b3_2 y66.2.2.2 y66.1 y66.2.1 y66.2.2.1) (T.ite (y57 == 1) (T.call Try.prog 49 [.agg #[Sl.v s1_b3_0, Sl.v s1_b3_1, .int .i64 s1_b3_2], .int .i64 y50] (fun (z : Sl × Sl × Int × Bool) => .tuple #[.agg #[Sl.v z.1, Sl.v z.2.1, .int .i64 z.2.2.1], .bool z.2.2.2]) fun (y71 : Sl × Sl × Int × Bool) => f18_spec_l1Cur_cow.J3 R next27 s1_5 s1_b3_0 s1_b3_1 s1_b3_2 y71.2.2.2 y71.1 y71.2.1 y71.2.2.1) (T.callq Try.prog 28 [.agg #[Sl.v s1_b3_0, Sl.v s1_b3_1, .int .i64 s1_b3_2]] (Value.int .i64) fun (y72 : Int) => T.call Try.prog 19 [.pointer a0, .int .i64 y72] (Value.int .i64) fun (y79 : Int) => T.new (.cells #[.string (⟨#[97]⟩ : ByteArray), .string (⟨#[98]⟩ : ByteArray), .string (⟨#[]⟩ : ByteArray), .string (⟨#[108, 101, 97, 102]⟩ : ByteArray), .string (⟨#[99]⟩ : ByteArray)] 9) fun (g85 : Nat) => T.call Try.prog 20 [.pointer a0, Sl.v (⟨some ⟨g85, 0, none⟩, 5, 5⟩ : Sl)] Value.string fun (y86 : ByteArray) => T.call Try.prog 7 [.agg #[Sl.v s1_b3_0, Sl.v s1_b3_1, .int .i64 s1_b3_2], .int .i64 y50, .int .i64 y79, .string y86] (fun (z : Sl × Sl × Int × Bool) => .tuple #[.agg #[Sl.v z.1, Sl.v z.2.1, .int .i64 z.2.2.1], .bool z.2.2.2]) fun (y92 : Sl × Sl × Int × Bool) => f18_spec_l1Cur_cow.J3 R next27 s1_5 s1_b3_0 s1_b3_1 s1_b3_2 y92.2.2.2 y92.1 y92.2.1 y92.2.2.1))) (T.call Try.prog 19 [.pointer a0, .int .i64 40] (Value.int .i64) fun (y108 : Int) => T.ite (y108 == 0) (T.ite (decide (0 < (s1_b3_0.n : Int))) (T.call Try.prog 19 [.pointer a0, .int .i64 (s1_b3_0.n : Int)] (Value.int .i64) fun (y126 : Int) => T.idx s1_b3_0 y126 3 fun (p128 : Addr) => T.ldc (p128.add 0) (Value.int .i64) fun (x129 : Int) => T.idx s1_b3_0 y126 3 fun (p132 : Addr) => T.stc (p132.add 0) (.int .i64 (IntKind.i64.wrap (x129 + 1))) (f18_spec_l1Cur_cow.J4 R s1_b3_0 s1_b3_1 s1_b3_2)) (f18_spec_l1Cur_cow.J4 R s1_b3_0 s1_b3_1 s1_b3_2)) (T.ite (y108 == 1) (T.call Try.prog 19 [.pointer a0, .int .i64 5] (Value.int .i64) fun (y144 : Int) => T.idx s1_b3_1 0 1 fun (p146 : Addr) => T.stc p146 (.int .i64 (IntKind.i64.wrap (y144 - 2))) (f18_spec_l1Cur_cow.J4 R s1_b3_0 s1_b3_1 s1_b3_2)) (T.ite (y108 == 2) (T.call Try.prog 19 [.pointer a0, .int .i64 5] (Value.int .i64) fun (y153 : Int) => f18_spec_l1Cur_cow.J4 R s1_b3_0 s1_b3_1 y153) (f18_spec_l1Cur_cow.J4 R s1_b3_0 s1_b3_1 s1_b3_2))))
def f18_spec_l1Cur_cow.T (R : Value → World → Prop) (a0 : (Option Addr)) : Tm :=
  T.call Try.prog 19 [.pointer a0, .int .i64 3] (Value.int .i64) fun (y9 : Int) => T.call Try.prog 47 [.int .i64 (IntKind.i64.wrap (1 + y9))] (fun (z : Sl × Sl × Int × Bool) => .tuple #[.agg #[Sl.v z.1, Sl.v z.2.1, .int .i64 z.2.2.1], .bool z.2.2.2]) fun (y10 : Sl × Sl × Int × Bool) => T.call Try.prog 19 [.pointer a0, .int .i64 16] (Value.int .i64) fun (y19 : Int) => T.loop (fun (s : Int × Sl × Sl × Int) next => f18_spec_l1Cur_cow.L1 R a0 s.1 s.2.1 s.2.2.1 s.2.2.2 (fun (z0 : Int) (z1 : Sl) (z2 : Sl) (z3 : Int) => next (z0, z1, z2, z3))) (y19, y10.1, y10.2.1, y10.2.2.1)
set_option maxHeartbeats 4000000 in
set_option maxRecDepth 100000 in
theorem f18_spec_l1Cur_cow.ok (R : Value → World → Prop) (a0 : (Option Addr)) (w : World) (h : Aft w (fun _ => False) (f18_spec_l1Cur_cow.T R a0)) :
    Calls Try.prog 18 (List.toArray [.pointer a0]) w fun e w' => ∃ v, e = .returned v ∧ R v w' := by
  refine enter 96 Try.func18 rfl rfl rfl ?_
  have B := Bx.nil w
  have H := h
  clear h
  refine c_seq (fun Q3 n1 o2 => ?_)
  refine c_region ?_
  obtain ⟨w4, N, g5, hw, hg, B, H⟩ := B.new H 26 #[Sl.v Sl.nil, Sl.v Sl.nil, .int .i64 0]
  refine stp (v := .pointer (some ⟨g5, 0, none⟩)) (w' := w4) rfl rfl (r_alloc rfl (alloc_run (al26 _) hw hg)) ?_
  clear hw hg
  refine fin ?_
  refine n1 _ _ ?_
  refine c_seq (fun Q8 n6 o7 => ?_)
  refine c_region ?_
  refine stp (v := .pointer a0) rfl rfl (r_move rfl rfl) ?_
  refine stpc rfl rfl (r_call (vs := [.pointer a0, .int .i64 3]) rfl rfl (ca19 _ _)) ?_
  refine at_call B H (fun y9 w B H => ?_)
  refine stp (v := .int .i64 (IntKind.i64.wrap (1 + y9))) rfl rfl (r_add (a := 1) (b := y9) rfl rfl rfl) ?_
  refine stpc rfl rfl (r_call (vs := [.int .i64 (IntKind.i64.wrap (1 + y9))]) rfl rfl (ca47 _ _)) ?_
  refine at_call B H (fun y10 w B H => ?_)
  refine stp (v := .tuple #[.agg #[Sl.v y10.1, Sl.v y10.2.1, .int .i64 y10.2.2.1], .bool y10.2.2.2]) rfl rfl (r_move rfl rfl) ?_
  refine stp (v := .agg #[Sl.v y10.1, Sl.v y10.2.1, .int .i64 y10.2.2.1]) rfl rfl (r_extract (v1 := .tuple #[.agg #[Sl.v y10.1, Sl.v y10.2.1, .int .i64 y10.2.2.1], .bool y10.2.2.2]) rfl rfl rfl) ?_
  refine stp (v := .bool y10.2.2.2) rfl rfl (r_extract (v1 := .tuple #[.agg #[Sl.v y10.1, Sl.v y10.2.1, .int .i64 y10.2.2.1], .bool y10.2.2.2]) rfl rfl rfl) ?_
  obtain ⟨w11, N, g12, hw, hg, B, H⟩ := B.new H 26 #[Sl.v Sl.nil, Sl.v Sl.nil, .int .i64 0]
  refine stp (v := .pointer (some ⟨g12, 0, none⟩)) (w' := w11) rfl rfl (r_alloc rfl (alloc_run (al26 _) hw hg)) ?_
  clear hw hg
  obtain ⟨w2, hr, B, H⟩ := B.stn H (i := 0) (T := 26) (cs' := #[Sl.v y10.1, Sl.v y10.2.1, .int .i64 y10.2.2.1]) (ad := ⟨g12, 0, none⟩) rfl rfl rfl rfl sz26
  refine stp0 rfl rfl (r_store (v1 := .pointer (some ⟨g12, 0, none⟩)) (v2 := .agg #[Sl.v y10.1, Sl.v y10.2.1, .int .i64 y10.2.2.1]) rfl rfl rfl hr) ?_
  replace B : Bx _ _ [⟨g12, 26, #[Sl.v y10.1, Sl.v y10.2.1, .int .i64 y10.2.2.1]⟩, ⟨g5, 26, #[Sl.v Sl.nil, Sl.v Sl.nil, .int .i64 0]⟩] := B
  clear hr
  refine stp (v := .bool y10.2.2.2) rfl rfl (r_assign rfl rfl) ?_
  refine fin ?_
  refine n6 _ _ ?_
  refine c_seq (fun Q15 n13 o14 => ?_)
  refine c_seq (fun Q18 n16 o17 => ?_)
  refine c_region ?_
  refine stp (v := .pointer a0) rfl rfl (r_move rfl rfl) ?_
  refine stpc rfl rfl (r_call (vs := [.pointer a0, .int .i64 16]) rfl rfl (ca19 _ _)) ?_
  refine at_call B H (fun y19 w B H => ?_)
  refine stp (v := .int .i64 y19) rfl rfl (r_assign rfl rfl) ?_
  refine fin ?_
  refine n16 _ _ ?_
  refine c_block (fun Q23 n20 x22 o21 => ?_)
  refine c_loop (σ := Int × Sl × Sl × Int) (s0 := (y19, y10.1, y10.2.1, y10.2.2.1)) (fun s => [(0, .pointer a0), (2, .pointer (some ⟨g5, 0, none⟩)), (3, .pointer (some ⟨g12, 0, none⟩)), (5, .int .i64 s.1)]) (fun s => [⟨g12, 26, #[Sl.v s.2.1, Sl.v s.2.2.1, .int .i64 s.2.2.2]⟩, ⟨g5, 26, #[Sl.v Sl.nil, Sl.v Sl.nil, .int .i64 0]⟩]) B H rfl ?_
  rintro Q26 next27 ⟨s1_5, s1_b3_0, s1_b3_1, s1_b3_2⟩ g w N nx24 o25 B H
  refine c_seq (fun Q30 n28 o29 => ?_)
  refine c_seq (fun Q33 n31 o32 => ?_)
  refine c_region ?_
  refine stp (v := .int .i64 s1_5) rfl rfl (r_move rfl rfl) ?_
  refine stp (v := .bool (decide (0 < s1_5))) rfl rfl (r_gtr (a := s1_5) (b := 0) rfl rfl rfl) ?_
  refine fin ?_
  refine n31 _ _ ?_
  refine c_cond (b := decide (0 < s1_5)) rfl (fun hb34 => ?_) (fun hb34 => ?_)
  · replace H := at_itet hb34 H
    refine c_skip ?_
    refine n28 _ _ ?_
    refine c_seqj (fun a w => ∃ (j2_b3_0 : Sl) (j2_b3_1 : Sl) (j2_b3_2 : Int) (g : Nat → Value) (N : NP), a = A 96 (updl g [(0, .pointer a0), (2, .pointer (some ⟨g5, 0, none⟩)), (3, .pointer (some ⟨g12, 0, none⟩)), (5, .int .i64 s1_5)]) ∧ Bx w N [⟨g12, 26, #[Sl.v j2_b3_0, Sl.v j2_b3_1, .int .i64 j2_b3_2]⟩, ⟨g5, 26, #[Sl.v Sl.nil, Sl.v Sl.nil, .int .i64 0]⟩] ∧ Aft w N (f18_spec_l1Cur_cow.J2 R (fun (z0 : Int) (z1 : Sl) (z2 : Sl) (z3 : Int) => next27 (z0, z1, z2, z3)) s1_5 j2_b3_0 j2_b3_1 j2_b3_2)) (fun Q37 n35 o36 => ?_) ?_
    ·
      refine c_block (fun Q41 n38 x40 o39 => ?_)
      refine c_seq (fun Q44 n42 o43 => ?_)
      refine c_region ?_
      refine stp (v := .agg #[Sl.v s1_b3_0, Sl.v s1_b3_1, .int .i64 s1_b3_2]) rfl rfl (r_load (v1 := .pointer (some ⟨g12, 0, none⟩)) rfl rfl (bxn (B.get 0 rfl) Try.underlying26 rfl sz26)) ?_
      obtain ⟨w45, N, g46, hw, hg, B, H⟩ := B.new H 26 #[Sl.v Sl.nil, Sl.v Sl.nil, .int .i64 0]
      refine stp (v := .pointer (some ⟨g46, 0, none⟩)) (w' := w45) rfl rfl (r_alloc rfl (alloc_run (al26 _) hw hg)) ?_
      clear hw hg
      obtain ⟨w2, hr, B, H⟩ := B.stn H (i := 0) (T := 26) (cs' := #[Sl.v s1_b3_0, Sl.v s1_b3_1, .int .i64 s1_b3_2]) (ad := ⟨g46, 0, none⟩) rfl rfl rfl rfl sz26
      refine stp0 rfl rfl (r_store (v1 := .pointer (some ⟨g46, 0, none⟩)) (v2 := .agg #[Sl.v s1_b3_0, Sl.v s1_b3_1, .int .i64 s1_b3_2]) rfl rfl rfl hr) ?_
      replace B : Bx _ _ [⟨g46, 26, #[Sl.v s1_b3_0, Sl.v s1_b3_1, .int .i64 s1_b3_2]⟩, ⟨g12, 26, #[Sl.v s1_b3_0, Sl.v s1_b3_1, .int .i64 s1_b3_2]⟩, ⟨g5, 26, #[Sl.v Sl.nil, Sl.v Sl.nil, .int .i64 0]⟩] := B
      clear hr
      refine stp (v := .bool false) rfl rfl (r_assign rfl rfl) ?_
      refine fin ?_
      refine n42 _ _ ?_
      refine c_seq (fun Q49 n47 o48 => ?_)
      refine c_region ?_
      refine stp (v := .pointer a0) rfl rfl (r_move rfl rfl) ?_
      refine stp (v := .pointer (some ⟨g12, 1, none⟩)) rfl rfl (r_fieldAddr (v1 := .pointer (some ⟨g12, 0, none⟩)) rfl rfl (fld26_1 _ _)) ?_
      refine stp (v := Sl.v s1_b3_1) rfl rfl (r_load (v1 := .pointer (some ⟨g12, 1, none⟩)) rfl rfl (ld1 Try.underlying24 rfl (bx1 (B.get 1 rfl) rfl rfl))) ?_
      refine stp (v := .int .i64 (s1_b3_1.n : Int)) rfl rfl (r_builtin (vs := [Sl.v s1_b3_1]) rfl rfl (fun _ => lenl Try.underlying24)) ?_
      refine stpc rfl rfl (r_call (vs := [.pointer a0, .int .i64 (s1_b3_1.n : Int)]) rfl rfl (ca19 _ _)) ?_
      refine at_call B H (fun y50 w B H => ?_)
      refine stp (v := .int .i64 y50) rfl rfl (r_assign rfl rfl) ?_
      refine fin ?_
      refine n47 _ _ ?_
      refine c_seqj (fun a w => ∃ (j3_7 : Bool) (j3_b6_0 : Sl) (j3_b6_1 : Sl) (j3_b6_2 : Int) (g : Nat → Value) (N : NP), a = A 96 (updl g [(0, .pointer a0), (2, .pointer (some ⟨g5, 0, none⟩)), (3, .pointer (some ⟨g12, 0, none⟩)), (5, .int .i64 s1_5), (6, .pointer (some ⟨g46, 0, none⟩)), (7, .bool j3_7)]) ∧ Bx w N [⟨g46, 26, #[Sl.v j3_b6_0, Sl.v j3_b6_1, .int .i64 j3_b6_2]⟩, ⟨g12, 26, #[Sl.v s1_b3_0, Sl.v s1_b3_1, .int .i64 s1_b3_2]⟩, ⟨g5, 26, #[Sl.v Sl.nil, Sl.v Sl.nil, .int .i64 0]⟩] ∧ Aft w N (f18_spec_l1Cur_cow.J3 R (fun (z0 : Int) (z1 : Sl) (z2 : Sl) (z3 : Int) => next27 (z0, z1, z2, z3)) s1_5 s1_b3_0 s1_b3_1 s1_b3_2 j3_7 j3_b6_0 j3_b6_1 j3_b6_2)) (fun Q53 n51 o52 => ?_) ?_
      ·
        refine c_seq (fun Q56 n54 o55 => ?_)
        refine c_region ?_
        refine stp (v := .pointer a0) rfl rfl (r_move rfl rfl) ?_
        refine stpc rfl rfl (r_call (vs := [.pointer a0, .int .i64 7]) rfl rfl (ca19 _ _)) ?_
        refine at_call B H (fun y57 w B H => ?_)
        refine fin ?_
        refine n54 _ _ ?_
        refine c_block (fun Q61 n58 x60 o59 => ?_)
        refine c_seq (fun Q64 n62 o63 => ?_)
        refine c_region ?_
        refine stp (v := .bool (y57 == 0)) rfl rfl (r_eql (a := y57) (b := 0) rfl rfl rfl) ?_
        refine stp (v := .bool (y57 == 0)) rfl rfl (r_assign rfl rfl) ?_
        refine fin ?_
        refine n62 _ _ ?_
        refine c_cond (b := y57 == 0) rfl (fun hb65 => ?_) (fun hb65 => ?_)
        · replace H := at_itet hb65 H
          refine c_region ?_
          refine stp (v := .agg #[Sl.v s1_b3_0, Sl.v s1_b3_1, .int .i64 s1_b3_2]) rfl rfl (r_load (v1 := .pointer (some ⟨g12, 0, none⟩)) rfl rfl (bxn (B.get 1 rfl) Try.underlying26 rfl sz26)) ?_
          refine stp (v := .int .i64 y50) rfl rfl (r_move rfl rfl) ?_
          refine stpc rfl rfl (r_call (vs := [.agg #[Sl.v s1_b3_0, Sl.v s1_b3_1, .int .i64 s1_b3_2], .int .i64 y50]) rfl rfl (ca48 _ _)) ?_
          refine at_call B H (fun y66 w B H => ?_)
          refine stp (v := .tuple #[.agg #[Sl.v y66.1, Sl.v y66.2.1, .int .i64 y66.2.2.1], .bool y66.2.2.2]) rfl rfl (r_move rfl rfl) ?_
          refine stp (v := .agg #[Sl.v y66.1, Sl.v y66.2.1, .int .i64 y66.2.2.1]) rfl rfl (r_extract (v1 := .tuple #[.agg #[Sl.v y66.1, Sl.v y66.2.1, .int .i64 y66.2.2.1], .bool y66.2.2.2]) rfl rfl rfl) ?_
          refine stp (v := .bool y66.2.2.2) rfl rfl (r_extract (v1 := .tuple #[.agg #[Sl.v y66.1, Sl.v y66.2.1, .int .i64 y66.2.2.1], .bool y66.2.2.2]) rfl rfl rfl) ?_
          obtain ⟨w2, hr, B, H⟩ := B.stn H (i := 0) (T := 26) (cs' := #[Sl.v y66.1, Sl.v y66.2.1, .int .i64 y66.2.2.1]) (ad := ⟨g46, 0, none⟩) rfl rfl rfl rfl sz26
          refine stp0 rfl rfl (r_store (v1 := .pointer (some ⟨g46, 0, none⟩)) (v2 := .agg #[Sl.v y66.1, Sl.v y66.2.1, .int .i64 y66.2.2.1]) rfl rfl rfl hr) ?_
          replace B : Bx _ _ [⟨g46, 26, #[Sl.v y66.1, Sl.v y66.2.1, .int .i64 y66.2.2.1]⟩, ⟨g12, 26, #[Sl.v s1_b3_0, Sl.v s1_b3_1, .int .i64 s1_b3_2]⟩, ⟨g5, 26, #[Sl.v Sl.nil, Sl.v Sl.nil, .int .i64 0]⟩] := B
          clear hr
          refine stp (v := .bool y66.2.2.2) rfl rfl (r_assign rfl rfl) ?_
          refine fin ?_
          refine n58 _ _ ?_
          exact n51 _ _ ⟨y66.2.2.2, y66.1, y66.2.1, y66.2.2.1, _, _, fr_self rfl, B, H⟩
        · replace H := at_itef hb65 H
          refine c_seq (fun Q69 n67 o68 => ?_)
          refine c_region ?_
          refine stp (v := .bool (y57 == 1)) rfl rfl (r_eql (a := y57) (b := 1) rfl rfl rfl) ?_
          refine stp (v := .bool (y57 == 1)) rfl rfl (r_assign rfl rfl) ?_
          refine fin ?_
          refine n67 _ _ ?_
          refine c_cond (b := y57 == 1) rfl (fun hb70 => ?_) (fun hb70 => ?_)
          · replace H := at_itet hb70 H
            refine c_region ?_
            refine stp (v := .agg #[Sl.v s1_b3_0, Sl.v s1_b3_1, .int .i64 s1_b3_2]) rfl rfl (r_load (v1 := .pointer (some ⟨g12, 0, none⟩)) rfl rfl (bxn (B.get 1 rfl) Try.underlying26 rfl sz26)) ?_
            refine stp (v := .int .i64 y50) rfl rfl (r_move rfl rfl) ?_
            refine stpc rfl rfl (r_call (vs := [.agg #[Sl.v s1_b3_0, Sl.v s1_b3_1, .int .i64 s1_b3_2], .int .i64 y50]) rfl rfl (ca49 _ _)) ?_
            refine at_call B H (fun y71 w B H => ?_)
            refine stp (v := .tuple #[.agg #[Sl.v y71.1, Sl.v y71.2.1, .int .i64 y71.2.2.1], .bool y71.2.2.2]) rfl rfl (r_move rfl rfl) ?_
            refine stp (v := .agg #[Sl.v y71.1, Sl.v y71.2.1, .int .i64 y71.2.2.1]) rfl rfl (r_extract (v1 := .tuple #[.agg #[Sl.v y71.1, Sl.v y71.2.1, .int .i64 y71.2.2.1], .bool y71.2.2.2]) rfl rfl rfl) ?_
            refine stp (v := .bool y71.2.2.2) rfl rfl (r_extract (v1 := .tuple #[.agg #[Sl.v y71.1, Sl.v y71.2.1, .int .i64 y71.2.2.1], .bool y71.2.2.2]) rfl rfl rfl) ?_
            obtain ⟨w2, hr, B, H⟩ := B.stn H (i := 0) (T := 26) (cs' := #[Sl.v y71.1, Sl.v y71.2.1, .int .i64 y71.2.2.1]) (ad := ⟨g46, 0, none⟩) rfl rfl rfl rfl sz26
            refine stp0 rfl rfl (r_store (v1 := .pointer (some ⟨g46, 0, none⟩)) (v2 := .agg #[Sl.v y71.1, Sl.v y71.2.1, .int .i64 y71.2.2.1]) rfl rfl rfl hr) ?_
            replace B : Bx _ _ [⟨g46, 26, #[Sl.v y71.1, Sl.v y71.2.1, .int .i64 y71.2.2.1]⟩, ⟨g12, 26, #[Sl.v s1_b3_0, Sl.v s1_b3_1, .int .i64 s1_b3_2]⟩, ⟨g5, 26, #[Sl.v Sl.nil, Sl.v Sl.nil, .int .i64 0]⟩] := B
            clear hr
            refine stp (v := .bool y71.2.2.2) rfl rfl (r_assign rfl rfl) ?_
            refine fin ?_
            refine n58 _ _ ?_
            exact n51 _ _ ⟨y71.2.2.2, y71.1, y71.2.1, y71.2.2.1, _, _, fr_self rfl, B, H⟩
          · replace H := at_itef hb70 H
            refine c_open 14 (kap [5, 8, 9, 13] [7]) (fun i b => bif Nat.beq i 7 then .slice (some ⟨b, 0, none⟩) 5 5 else .pointer (some ⟨b, 0, none⟩)) (fun _ => []) (fun i => bif Nat.beq i 8 then [(7, 38)] else []) [0, 1, 2, 3, 4, 6, 5, 8, 9, 10, 11, 12, 13] [(7, 38)] [(7, 9, #[.string (⟨#[97]⟩ : ByteArray), .string (⟨#[98]⟩ : ByteArray), .string (⟨#[]⟩ : ByteArray), .string (⟨#[108, 101, 97, 102]⟩ : ByteArray), .string (⟨#[99]⟩ : ByteArray)])] _ rfl (by kernel_rfl) (by kernel_rfl) rfl B (flk (by simp) (al_cons rfl (.inr rfl) (fun _ g hg => (r_buildSlice (qs := [(0, .string (⟨#[97]⟩ : ByteArray)), (1, .string (⟨#[98]⟩ : ByteArray)), (2, .string (⟨#[]⟩ : ByteArray)), (3, .string (⟨#[108, 101, 97, 102]⟩ : ByteArray)), (4, .string (⟨#[99]⟩ : ByteArray))]) rfl rfl (bs_run (site1 (⟨#[97]⟩ : ByteArray) (⟨#[98]⟩ : ByteArray) (⟨#[]⟩ : ByteArray) (⟨#[108, 101, 97, 102]⟩ : ByteArray) (⟨#[99]⟩ : ByteArray) _) rfl rfl))) al_nil)) ?_
            refine ph_q (v := .agg #[Sl.v s1_b3_0, Sl.v s1_b3_1, .int .i64 s1_b3_2]) rfl rfl rfl (hv_ok rfl rfl) (qy_val rfl (fun w_ ρ_ hb_ => (r_load (v1 := .pointer (some ⟨g12, 0, none⟩)) rfl rfl (bxn (hb_.get 1 rfl) Try.underlying26 rfl sz26)))) ?_
            refine ph_q (v := .int .i64 y50) rfl rfl rfl (hv_ok rfl rfl) (qy_val rfl (fun w_ ρ_ hb_ => (r_move rfl rfl))) ?_
            refine ph_q (v := .pointer a0) rfl rfl rfl (hv_ok rfl rfl) (qy_val rfl (fun w_ ρ_ hb_ => (r_move rfl rfl))) ?_
            refine ph_q (v := .agg #[Sl.v s1_b3_0, Sl.v s1_b3_1, .int .i64 s1_b3_2]) rfl rfl rfl (hv_ok rfl rfl) (qy_val rfl (fun w_ ρ_ hb_ => (r_load (v1 := .pointer (some ⟨g12, 0, none⟩)) rfl rfl (bxn (hb_.get 1 rfl) Try.underlying26 rfl sz26)))) ?_
            obtain ⟨y72, hC73, H'⟩ := at_callqz H
            replace H := H'; clear H'
            refine ph_q (v := .int .i64 y72) rfl rfl rfl (hv_ok rfl rfl) (qy_call rfl (fun w_ ρ_ hb_ => r_call (vs := [.agg #[Sl.v s1_b3_0, Sl.v s1_b3_1, .int .i64 s1_b3_2]]) rfl rfl (ca28 _ _)) (fun w_ ρ_ hb_ => Cls.cq hC73 hb_)) ?_
            refine ph_q (v := .pointer a0) rfl rfl rfl (hv_ok rfl rfl) (qy_val rfl (fun w_ ρ_ hb_ => (r_move rfl rfl))) ?_
            refine ph_e rfl rfl (fun w74 ρ78 hc hs => ?_)
            obtain ⟨hx, N75, hz76, B77⟩ := hc
            replace H := H.step hz76
            clear hz76
            refine ef_call rfl (r_call (vs := [.pointer a0, .int .i64 y72]) rfl rfl (ca19 _ _)) (at_call B77 H (fun y79 w2 B H => ?_))
            refine ⟨Cls w2 N75 [⟨g46, 26, #[Sl.v s1_b3_0, Sl.v s1_b3_1, .int .i64 s1_b3_2]⟩, ⟨g12, 26, #[Sl.v s1_b3_0, Sl.v s1_b3_1, .int .i64 s1_b3_2]⟩, ⟨g5, 26, #[Sl.v Sl.nil, Sl.v Sl.nil, .int .i64 0]⟩] [(7, 9, #[.string (⟨#[97]⟩ : ByteArray), .string (⟨#[98]⟩ : ByteArray), .string (⟨#[]⟩ : ByteArray), .string (⟨#[108, 101, 97, 102]⟩ : ByteArray), .string (⟨#[99]⟩ : ByteArray)])] [], Cls.now hx B, (flk (by simp) (al_cons rfl (.inr rfl) (fun _ g hg => (r_buildSlice (qs := [(0, .string (⟨#[97]⟩ : ByteArray)), (1, .string (⟨#[98]⟩ : ByteArray)), (2, .string (⟨#[]⟩ : ByteArray)), (3, .string (⟨#[108, 101, 97, 102]⟩ : ByteArray)), (4, .string (⟨#[99]⟩ : ByteArray))]) rfl rfl (bs_run (site1 (⟨#[97]⟩ : ByteArray) (⟨#[98]⟩ : ByteArray) (⟨#[]⟩ : ByteArray) (⟨#[108, 101, 97, 102]⟩ : ByteArray) (⟨#[99]⟩ : ByteArray) _) rfl rfl))) al_nil)), (pd_anc (re := [6, 1, 0]) (by kernel_rfl) (re_cons rfl rfl rfl (qy_val rfl (fun w_ ρ_ hb_ => (r_move rfl rfl))) (re_cons rfl rfl rfl (qy_val rfl (fun w_ ρ_ hb_ => (r_move rfl rfl))) (re_cons rfl rfl rfl (qy_val rfl (fun w_ ρ_ hb_ => (r_load (v1 := .pointer (some ⟨g12, 0, none⟩)) rfl rfl (bxn (hb_.get 1 rfl) Try.underlying26 rfl sz26)))) re_nil)))), ?_⟩
            clear hx
            replace B := B.sub (List.sublist_append_right _ _)
            refine ph_e rfl rfl (fun w80 ρ84 hc hs => ?_)
            obtain ⟨hx, N81, hz82, B83⟩ := hc
            replace H := H.step hz82
            clear hz82
            obtain ⟨g85, hg7⟩ := Option.isSome_iff_exists.1 (hs (7, 38) (by simp))
            obtain ⟨N81, B83, H⟩ := at_pub (g := g85) (T := 9) (cs := #[.string (⟨#[97]⟩ : ByteArray), .string (⟨#[98]⟩ : ByteArray), .string (⟨#[]⟩ : ByteArray), .string (⟨#[108, 101, 97, 102]⟩ : ByteArray), .string (⟨#[99]⟩ : ByteArray)]) (bs := flb [] ρ84 ++ [⟨g46, 26, #[Sl.v s1_b3_0, Sl.v s1_b3_1, .int .i64 s1_b3_2]⟩, ⟨g12, 26, #[Sl.v s1_b3_0, Sl.v s1_b3_1, .int .i64 s1_b3_2]⟩, ⟨g5, 26, #[Sl.v Sl.nil, Sl.v Sl.nil, .int .i64 0]⟩]) (by simpa only [flb, List.filterMap_cons, hg7, Option.map_some, List.cons_append] using B83) H
            replace hx := hx_cons hg7 hx
            refine EF_frame (f' := updl _ [(38, .slice (some ⟨g85, 0, none⟩) 5 5)]) (wfl_cons hg7 rfl wfl_nil) ?_
            refine ef_call rfl (r_call (vs := [.pointer a0, Sl.v (⟨some ⟨g85, 0, none⟩, 5, 5⟩ : Sl)]) rfl rfl (ca20 _ _)) (at_call B83 H (fun y86 w2 B H => ?_))
            refine ⟨Cls w2 N81 [⟨g46, 26, #[Sl.v s1_b3_0, Sl.v s1_b3_1, .int .i64 s1_b3_2]⟩, ⟨g12, 26, #[Sl.v s1_b3_0, Sl.v s1_b3_1, .int .i64 s1_b3_2]⟩, ⟨g5, 26, #[Sl.v Sl.nil, Sl.v Sl.nil, .int .i64 0]⟩] [] [(7, g85)], Cls.now hx B, (flk (by simp) (al_cons rfl (.inl rfl) (fun _ g hg => (r_buildSlice (qs := [(0, .string (⟨#[97]⟩ : ByteArray)), (1, .string (⟨#[98]⟩ : ByteArray)), (2, .string (⟨#[]⟩ : ByteArray)), (3, .string (⟨#[108, 101, 97, 102]⟩ : ByteArray)), (4, .string (⟨#[99]⟩ : ByteArray))]) rfl rfl (bs_run (site1 (⟨#[97]⟩ : ByteArray) (⟨#[98]⟩ : ByteArray) (⟨#[]⟩ : ByteArray) (⟨#[108, 101, 97, 102]⟩ : ByteArray) (⟨#[99]⟩ : ByteArray) _) rfl rfl))) al_nil)), (pd_anc (re := [1, 0]) (by kernel_rfl) (re_cons rfl rfl rfl (qy_val rfl (fun w_ ρ_ hb_ => (r_move rfl rfl))) (re_cons rfl rfl rfl (qy_val rfl (fun w_ ρ_ hb_ => (r_load (v1 := .pointer (some ⟨g12, 0, none⟩)) rfl rfl (bxn (hb_.get 1 rfl) Try.underlying26 rfl sz26)))) re_nil))), ?_⟩
            clear hx
            replace B := B.sub (List.sublist_append_right _ _)
            refine ph_e rfl rfl (fun w87 ρ91 hc hs => ?_)
            obtain ⟨hx, N88, hz89, B90⟩ := hc
            replace H := H.step hz89
            clear hz89
            refine ef_call rfl (r_call (vs := [.agg #[Sl.v s1_b3_0, Sl.v s1_b3_1, .int .i64 s1_b3_2], .int .i64 y50, .int .i64 y79, .string y86]) rfl rfl (ca7 _ _)) (at_call B90 H (fun y92 w2 B H => ?_))
            refine ⟨Cls w2 N88 [⟨g46, 26, #[Sl.v s1_b3_0, Sl.v s1_b3_1, .int .i64 s1_b3_2]⟩, ⟨g12, 26, #[Sl.v s1_b3_0, Sl.v s1_b3_1, .int .i64 s1_b3_2]⟩, ⟨g5, 26, #[Sl.v Sl.nil, Sl.v Sl.nil, .int .i64 0]⟩] [] [(7, g85)], Cls.now hx B, (flk (by simp) (al_cons rfl (.inl rfl) (fun _ g hg => (r_buildSlice (qs := [(0, .string (⟨#[97]⟩ : ByteArray)), (1, .string (⟨#[98]⟩ : ByteArray)), (2, .string (⟨#[]⟩ : ByteArray)), (3, .string (⟨#[108, 101, 97, 102]⟩ : ByteArray)), (4, .string (⟨#[99]⟩ : ByteArray))]) rfl rfl (bs_run (site1 (⟨#[97]⟩ : ByteArray) (⟨#[98]⟩ : ByteArray) (⟨#[]⟩ : ByteArray) (⟨#[108, 101, 97, 102]⟩ : ByteArray) (⟨#[99]⟩ : ByteArray) _) rfl rfl))) al_nil)), (pd_anc (re := []) (by kernel_rfl) re_nil), ?_⟩
            clear hx
            replace B := B.sub (List.sublist_append_right _ _)
            refine ph_q (v := .tuple #[.agg #[Sl.v y92.1, Sl.v y92.2.1, .int .i64 y92.2.2.1], .bool y92.2.2.2]) rfl rfl rfl (hv_ok rfl rfl) (qy_val rfl (fun w_ ρ_ hb_ => (r_move rfl rfl))) ?_
            refine ph_q (v := .agg #[Sl.v y92.1, Sl.v y92.2.1, .int .i64 y92.2.2.1]) rfl rfl rfl (hv_ok rfl rfl) (qy_val rfl (fun w_ ρ_ hb_ => (r_extract (v1 := .tuple #[.agg #[Sl.v y92.1, Sl.v y92.2.1, .int .i64 y92.2.2.1], .bool y92.2.2.2]) rfl rfl rfl))) ?_
            refine ph_q (v := .bool y92.2.2.2) rfl rfl rfl (hv_ok rfl rfl) (qy_val rfl (fun w_ ρ_ hb_ => (r_extract (v1 := .tuple #[.agg #[Sl.v y92.1, Sl.v y92.2.1, .int .i64 y92.2.2.1], .bool y92.2.2.2]) rfl rfl rfl))) ?_
            refine ph_e rfl rfl (fun w93 ρ97 hc hs => ?_)
            obtain ⟨hx, N94, hz95, B96⟩ := hc
            replace H := H.step hz95
            clear hz95
            replace B96 : Bx _ _ ([⟨g46, 26, #[Sl.v s1_b3_0, Sl.v s1_b3_1, .int .i64 s1_b3_2]⟩, ⟨g12, 26, #[Sl.v s1_b3_0, Sl.v s1_b3_1, .int .i64 s1_b3_2]⟩, ⟨g5, 26, #[Sl.v Sl.nil, Sl.v Sl.nil, .int .i64 0]⟩] ++ flb [] ρ97) := B96.perm List.perm_append_comm
            obtain ⟨w2, hr, B, H⟩ := B96.stn H (i := 0) (T := 26) (cs' := #[Sl.v y92.1, Sl.v y92.2.1, .int .i64 y92.2.2.1]) (ad := ⟨g46, 0, none⟩) rfl rfl rfl rfl sz26
            refine ef_skp (w' := w2) rfl (r_store (v1 := .pointer (some ⟨g46, 0, none⟩)) (v2 := .agg #[Sl.v y92.1, Sl.v y92.2.1, .int .i64 y92.2.2.1]) rfl rfl rfl hr) ?_
            clear hr
            replace B : Bx _ _ ([⟨g46, 26, #[Sl.v y92.1, Sl.v y92.2.1, .int .i64 y92.2.2.1]⟩, ⟨g12, 26, #[Sl.v s1_b3_0, Sl.v s1_b3_1, .int .i64 s1_b3_2]⟩, ⟨g5, 26, #[Sl.v Sl.nil, Sl.v Sl.nil, .int .i64 0]⟩] ++ flb [] ρ97) := B
            replace B := B.perm List.perm_append_comm
            refine ⟨Cls w2 N94 [⟨g46, 26, #[Sl.v y92.1, Sl.v y92.2.1, .int .i64 y92.2.2.1]⟩, ⟨g12, 26, #[Sl.v s1_b3_0, Sl.v s1_b3_1, .int .i64 s1_b3_2]⟩, ⟨g5, 26, #[Sl.v Sl.nil, Sl.v Sl.nil, .int .i64 0]⟩] [] [(7, g85)], Cls.now hx B, (flk (by simp) (al_cons rfl (.inl rfl) (fun _ g hg => (r_buildSlice (qs := [(0, .string (⟨#[97]⟩ : ByteArray)), (1, .string (⟨#[98]⟩ : ByteArray)), (2, .string (⟨#[]⟩ : ByteArray)), (3, .string (⟨#[108, 101, 97, 102]⟩ : ByteArray)), (4, .string (⟨#[99]⟩ : ByteArray))]) rfl rfl (bs_run (site1 (⟨#[97]⟩ : ByteArray) (⟨#[98]⟩ : ByteArray) (⟨#[]⟩ : ByteArray) (⟨#[108, 101, 97, 102]⟩ : ByteArray) (⟨#[99]⟩ : ByteArray) _) rfl rfl))) al_nil)), (pd_anc (re := [12]) (by kernel_rfl) (re_cons rfl rfl rfl (qy_val rfl (fun w_ ρ_ hb_ => (r_extract (v1 := .tuple #[.agg #[Sl.v y92.1, Sl.v y92.2.1, .int .i64 y92.2.2.1], .bool y92.2.2.2]) rfl rfl rfl))) re_nil)), ?_⟩
            clear hx
            replace B := B.sub (List.sublist_append_right _ _)
            refine ph_nil (fun w ρ N hz hx B hs => ?_)
            replace H := H.step hz
            have hg7 := hx (7, g85) (by simp)
            replace hg7 : ρ 7 = some g85 := hg7
            replace B : Bx w N [⟨g46, 26, #[Sl.v y92.1, Sl.v y92.2.1, .int .i64 y92.2.2.1]⟩, ⟨g12, 26, #[Sl.v s1_b3_0, Sl.v s1_b3_1, .int .i64 s1_b3_2]⟩, ⟨g5, 26, #[Sl.v Sl.nil, Sl.v Sl.nil, .int .i64 0]⟩] := by simpa only [flb, List.filterMap_cons, List.filterMap_nil, hg7, Option.map_some, List.cons_append, List.nil_append] using B
            refine WL_frame (f' := updl _ [(38, .slice (some ⟨g85, 0, none⟩) 5 5)]) (wfl_cons hg7 rfl wfl_nil) ?_
            refine stp (v := .bool y92.2.2.2) rfl rfl (r_assign rfl rfl) ?_
            refine fin ?_
            refine n58 _ _ ?_
            exact n51 _ _ ⟨y92.2.2.2, y92.1, y92.2.1, y92.2.2.1, _, _, fr_self rfl, B, H⟩
      ·
        rintro _ w ⟨j3_7, j3_b6_0, j3_b6_1, j3_b6_2, g, N, rfl, B, H⟩
        refine c_seq (fun Q100 n98 o99 => ?_)
        refine c_region ?_
        refine stp (v := .bool j3_7) rfl rfl (r_move rfl rfl) ?_
        refine fin ?_
        refine n98 _ _ ?_
        refine c_cond (b := j3_7) rfl (fun hb101 => ?_) (fun hb101 => ?_)
        · replace H := at_itet hb101 H
          refine c_region ?_
          refine stp (v := .agg #[Sl.v j3_b6_0, Sl.v j3_b6_1, .int .i64 j3_b6_2]) rfl rfl (r_load (v1 := .pointer (some ⟨g46, 0, none⟩)) rfl rfl (bxn (B.get 0 rfl) Try.underlying26 rfl sz26)) ?_
          obtain ⟨w2, hr, B, H⟩ := B.stn H (i := 1) (T := 26) (cs' := #[Sl.v j3_b6_0, Sl.v j3_b6_1, .int .i64 j3_b6_2]) (ad := ⟨g12, 0, none⟩) rfl rfl rfl rfl sz26
          refine stp0 rfl rfl (r_store (v1 := .pointer (some ⟨g12, 0, none⟩)) (v2 := .agg #[Sl.v j3_b6_0, Sl.v j3_b6_1, .int .i64 j3_b6_2]) rfl rfl rfl hr) ?_
          replace B : Bx _ _ [⟨g46, 26, #[Sl.v j3_b6_0, Sl.v j3_b6_1, .int .i64 j3_b6_2]⟩, ⟨g12, 26, #[Sl.v j3_b6_0, Sl.v j3_b6_1, .int .i64 j3_b6_2]⟩, ⟨g5, 26, #[Sl.v Sl.nil, Sl.v Sl.nil, .int .i64 0]⟩] := B
          clear hr
          refine fin ?_
          refine n38 _ _ ?_
          exact n35 _ _ ⟨j3_b6_0, j3_b6_1, j3_b6_2, _, _, fr_self rfl, (B.sub (List.Sublist.cons _ (List.Sublist.refl _))), H⟩
        · replace H := at_itef hb101 H
          refine c_skip ?_
          refine n38 _ _ ?_
          exact n35 _ _ ⟨s1_b3_0, s1_b3_1, s1_b3_2, _, _, fr_self rfl, (B.sub (List.Sublist.cons _ (List.Sublist.refl _))), H⟩
    ·
      rintro _ w ⟨j2_b3_0, j2_b3_1, j2_b3_2, g, N, rfl, B, H⟩
      refine c_region ?_
      refine stp (v := .int .i64 s1_5) rfl rfl (r_move rfl rfl) ?_
      refine stp (v := .int .i64 (IntKind.i64.wrap (s1_5 - 1))) rfl rfl (r_sub (a := s1_5) (b := 1) rfl rfl rfl) ?_
      refine stp (v := .int .i64 (IntKind.i64.wrap (s1_5 - 1))) rfl rfl (r_assign rfl rfl) ?_
      refine fin ?_
      exact nx24 ⟨IntKind.i64.wrap (s1_5 - 1), j2_b3_0, j2_b3_1, j2_b3_2⟩ _ _ _ B H rfl
  · replace H := at_itef hb34 H
    refine c_exit (o29 _ _ _ nofun (o25 _ _ _ nofun (x22 _ _ ?_)))
    refine n13 _ _ ?_
    refine c_seqj (fun a w => ∃ (j4_b3_2 : Int) (g : Nat → Value) (N : NP), a = A 96 (updl g [(2, .pointer (some ⟨g5, 0, none⟩)), (3, .pointer (some ⟨g12, 0, none⟩))]) ∧ Bx w N [⟨g12, 26, #[Sl.v s1_b3_0, Sl.v s1_b3_1, .int .i64 j4_b3_2]⟩, ⟨g5, 26, #[Sl.v Sl.nil, Sl.v Sl.nil, .int .i64 0]⟩] ∧ Aft w N (f18_spec_l1Cur_cow.J4 R s1_b3_0 s1_b3_1 j4_b3_2)) (fun Q104 n102 o103 => ?_) ?_
    ·
      refine c_seq (fun Q107 n105 o106 => ?_)
      refine c_region ?_
      refine stp (v := .pointer a0) rfl rfl (r_move rfl rfl) ?_
      refine stpc rfl rfl (r_call (vs := [.pointer a0, .int .i64 40]) rfl rfl (ca19 _ _)) ?_
      refine at_call B H (fun y108 w B H => ?_)
      refine fin ?_
      refine n105 _ _ ?_
      refine c_block (fun Q112 n109 x111 o110 => ?_)
      refine c_seq (fun Q115 n113 o114 => ?_)
      refine c_region ?_
      refine stp (v := .bool (y108 == 0)) rfl rfl (r_eql (a := y108) (b := 0) rfl rfl rfl) ?_
      refine stp (v := .bool (y108 == 0)) rfl rfl (r_assign rfl rfl) ?_
      refine fin ?_
      refine n113 _ _ ?_
      refine c_cond (b := y108 == 0) rfl (fun hb116 => ?_) (fun hb116 => ?_)
      · replace H := at_itet hb116 H
        refine c_seq (fun Q119 n117 o118 => ?_)
        refine c_region ?_
        refine stp (v := .pointer (some ⟨g12, 0, none⟩)) rfl rfl (r_fieldAddr (v1 := .pointer (some ⟨g12, 0, none⟩)) rfl rfl (fld26_0 _ _)) ?_
        refine stp (v := Sl.v s1_b3_0) rfl rfl (r_load (v1 := .pointer (some ⟨g12, 0, none⟩)) rfl rfl (ld1 Try.underlying23 rfl (bx1 (B.get 0 rfl) rfl rfl))) ?_
        refine stp (v := .int .i64 (s1_b3_0.n : Int)) rfl rfl (r_builtin (vs := [Sl.v s1_b3_0]) rfl rfl (fun _ => lenl Try.underlying23)) ?_
        refine stp (v := .bool (decide (0 < (s1_b3_0.n : Int)))) rfl rfl (r_gtr (a := (s1_b3_0.n : Int)) (b := 0) rfl rfl rfl) ?_
        refine fin ?_
        refine n117 _ _ ?_
        refine c_cond (b := decide (0 < (s1_b3_0.n : Int))) rfl (fun hb120 => ?_) (fun hb120 => ?_)
        · replace H := at_itet hb120 H
          refine c_open 7 (kap [6] []) (fun i b => .pointer (some ⟨b, 0, none⟩)) (fun _ => []) (fun i => []) [0, 1, 2, 3, 4, 5, 6] [] [] _ rfl (by kernel_rfl) (by kernel_rfl) rfl B (flk (by simp) al_nil) ?_
          refine ph_q (v := .pointer (some ⟨g12, 0, none⟩)) rfl rfl rfl (hv_ok rfl rfl) (qy_val rfl (fun w_ ρ_ hb_ => (r_fieldAddr (v1 := .pointer (some ⟨g12, 0, none⟩)) rfl rfl (fld26_0 _ _)))) ?_
          refine ph_q (v := Sl.v s1_b3_0) rfl rfl rfl (hv_ok rfl rfl) (qy_val rfl (fun w_ ρ_ hb_ => (r_load (v1 := .pointer (some ⟨g12, 0, none⟩)) rfl rfl (ld1 Try.underlying23 rfl (bx1 (hb_.get 0 rfl) rfl rfl))))) ?_
          refine ph_q (v := .pointer a0) rfl rfl rfl (hv_ok rfl rfl) (qy_val rfl (fun w_ ρ_ hb_ => (r_move rfl rfl))) ?_
          refine ph_q (v := .pointer (some ⟨g12, 0, none⟩)) rfl rfl rfl (hv_ok rfl rfl) (qy_val rfl (fun w_ ρ_ hb_ => (r_fieldAddr (v1 := .pointer (some ⟨g12, 0, none⟩)) rfl rfl (fld26_0 _ _)))) ?_
          refine ph_q (v := Sl.v s1_b3_0) rfl rfl rfl (hv_ok rfl rfl) (qy_val rfl (fun w_ ρ_ hb_ => (r_load (v1 := .pointer (some ⟨g12, 0, none⟩)) rfl rfl (ld1 Try.underlying23 rfl (bx1 (hb_.get 0 rfl) rfl rfl))))) ?_
          refine ph_q (v := .int .i64 (s1_b3_0.n : Int)) rfl rfl rfl (hv_ok rfl rfl) (qy_val rfl (fun w_ ρ_ hb_ => (r_builtin (vs := [Sl.v s1_b3_0]) rfl rfl (fun _ => lenl Try.underlying23)))) ?_
          refine ph_e rfl rfl (fun w121 ρ125 hc hs => ?_)
          obtain ⟨hx, N122, hz123, B124⟩ := hc
          replace H := H.step hz123
          clear hz123
          refine ef_call rfl (r_call (vs := [.pointer a0, .int .i64 (s1_b3_0.n : Int)]) rfl rfl (ca19 _ _)) (at_call B124 H (fun y126 w2 B H => ?_))
          refine ⟨Cls w2 N122 [⟨g12, 26, #[Sl.v s1_b3_0, Sl.v s1_b3_1, .int .i64 s1_b3_2]⟩, ⟨g5, 26, #[Sl.v Sl.nil, Sl.v Sl.nil, .int .i64 0]⟩] [] [], Cls.now hx B, (flk (by simp) al_nil), (pd_anc (re := [1, 0]) (by kernel_rfl) (re_cons rfl rfl rfl (qy_val rfl (fun w_ ρ_ hb_ => (r_load (v1 := .pointer (some ⟨g12, 0, none⟩)) rfl rfl (ld1 Try.underlying23 rfl (bx1 (hb_.get 0 rfl) rfl rfl))))) (re_cons rfl rfl rfl (qy_val rfl (fun w_ ρ_ hb_ => (r_fieldAddr (v1 := .pointer (some ⟨g12, 0, none⟩)) rfl rfl (fld26_0 _ _)))) re_nil))), ?_⟩
          clear hx
          replace B := B.sub (List.sublist_append_right _ _)
          refine ph_nil0 (fun w N hz B => ?_)
          replace H := H.step hz
          obtain ⟨p127, p128, he, h0, h1, hpa, H'⟩ := at_idx' H
          replace H := H'; clear H'
          refine stp (v := .pointer (some p128)) rfl rfl (r_indexAddr (v1 := Sl.v s1_b3_0) (v2 := .int .i64 y126) rfl rfl rfl (ix' Try.underlying23 sz70 he h0 h1 hpa)) ?_
          clear he h0 h1 hpa
          refine stp (v := .pointer (some (p128.add 0))) rfl rfl (r_fieldAddr (v1 := .pointer (some p128)) rfl rfl (fld70_0 _ _)) ?_
          obtain ⟨x129, hx130, H'⟩ := at_ldc H
          replace H := H'; clear H'
          refine stp (v := .int .i64 x129) rfl rfl (r_load (v1 := .pointer (some (p128.add 0))) rfl rfl (ld1 Try.underlying3 rfl (hx130 _ (Below.refl _ _)))) ?_
          refine stp (v := .int .i64 (IntKind.i64.wrap (x129 + 1))) rfl rfl (r_add (a := x129) (b := 1) rfl rfl rfl) ?_
          obtain ⟨p131, p132, he, h0, h1, hpa, H'⟩ := at_idx' H
          replace H := H'; clear H'
          refine stp (v := .pointer (some p132)) rfl rfl (r_indexAddr (v1 := Sl.v s1_b3_0) (v2 := .int .i64 y126) rfl rfl rfl (ix' Try.underlying23 sz70 he h0 h1 hpa)) ?_
          clear he h0 h1 hpa
          refine stp (v := .pointer (some (p132.add 0))) rfl rfl (r_fieldAddr (v1 := .pointer (some p132)) rfl rfl (fld70_0 _ _)) ?_
          obtain ⟨hc133, hf134, B', H'⟩ := at_stc B H
          replace B := B'; clear B'
          replace H := H'; clear H'
          refine stp0 rfl rfl (r_store (v1 := .pointer (some (p132.add 0))) (v2 := .int .i64 (IntKind.i64.wrap (x129 + 1))) rfl rfl rfl (st1 rfl sz3 hc133 hf134)) ?_
          refine fin ?_
          refine n109 _ _ ?_
          exact n102 _ _ ⟨s1_b3_2, _, _, fr_self rfl, B, H⟩
        · replace H := at_itef hb120 H
          refine c_skip ?_
          refine n109 _ _ ?_
          exact n102 _ _ ⟨s1_b3_2, _, _, fr_self rfl, B, H⟩
      · replace H := at_itef hb116 H
        refine c_seq (fun Q137 n135 o136 => ?_)
        refine c_region ?_
        refine stp (v := .bool (y108 == 1)) rfl rfl (r_eql (a := y108) (b := 1) rfl rfl rfl) ?_
        refine stp (v := .bool (y108 == 1)) rfl rfl (r_assign rfl rfl) ?_
        refine fin ?_
        refine n135 _ _ ?_
        refine c_cond (b := y108 == 1) rfl (fun hb138 => ?_) (fun hb138 => ?_)
        · replace H := at_itet hb138 H
          refine c_open 5 (kap [3] []) (fun i b => .pointer (some ⟨b, 0, none⟩)) (fun _ => []) (fun i => []) [0, 1, 2, 3, 4] [] [] _ rfl (by kernel_rfl) (by kernel_rfl) rfl B (flk (by simp) al_nil) ?_
          refine ph_q (v := .pointer (some ⟨g12, 1, none⟩)) rfl rfl rfl (hv_ok rfl rfl) (qy_val rfl (fun w_ ρ_ hb_ => (r_fieldAddr (v1 := .pointer (some ⟨g12, 0, none⟩)) rfl rfl (fld26_1 _ _)))) ?_
          refine ph_q (v := Sl.v s1_b3_1) rfl rfl rfl (hv_ok rfl rfl) (qy_val rfl (fun w_ ρ_ hb_ => (r_load (v1 := .pointer (some ⟨g12, 1, none⟩)) rfl rfl (ld1 Try.underlying24 rfl (bx1 (hb_.get 0 rfl) rfl rfl))))) ?_
          refine ph_q (v := .pointer a0) rfl rfl rfl (hv_ok rfl rfl) (qy_val rfl (fun w_ ρ_ hb_ => (r_move rfl rfl))) ?_
          refine ph_e rfl rfl (fun w139 ρ143 hc hs => ?_)
          obtain ⟨hx, N140, hz141, B142⟩ := hc
          replace H := H.step hz141
          clear hz141
          refine ef_call rfl (r_call (vs := [.pointer a0, .int .i64 5]) rfl rfl (ca19 _ _)) (at_call B142 H (fun y144 w2 B H => ?_))
          refine ⟨Cls w2 N140 [⟨g12, 26, #[Sl.v s1_b3_0, Sl.v s1_b3_1, .int .i64 s1_b3_2]⟩, ⟨g5, 26, #[Sl.v Sl.nil, Sl.v Sl.nil, .int .i64 0]⟩] [] [], Cls.now hx B, (flk (by simp) al_nil), (pd_anc (re := [1, 0]) (by kernel_rfl) (re_cons rfl rfl rfl (qy_val rfl (fun w_ ρ_ hb_ => (r_load (v1 := .pointer (some ⟨g12, 1, none⟩)) rfl rfl (ld1 Try.underlying24 rfl (bx1 (hb_.get 0 rfl) rfl rfl))))) (re_cons rfl rfl rfl (qy_val rfl (fun w_ ρ_ hb_ => (r_fieldAddr (v1 := .pointer (some ⟨g12, 0, none⟩)) rfl rfl (fld26_1 _ _)))) re_nil))), ?_⟩
          clear hx
          replace B := B.sub (List.sublist_append_right _ _)
          refine ph_q (v := .int .i64 (IntKind.i64.wrap (y144 - 2))) rfl rfl rfl (hv_ok rfl rfl) (qy_val rfl (fun w_ ρ_ hb_ => (r_sub (a := y144) (b := 2) rfl rfl rfl))) ?_
          refine ph_nil0 (fun w N hz B => ?_)
          replace H := H.step hz
          obtain ⟨p145, p146, he, h0, h1, hpa, H'⟩ := at_idx' H
          replace H := H'; clear H'
          refine stp (v := .pointer (some p146)) rfl rfl (r_indexAddr (v1 := Sl.v s1_b3_1) (v2 := .int .i64 0) rfl rfl rfl (ix' Try.underlying24 sz3 he h0 h1 hpa)) ?_
          clear he h0 h1 hpa
          obtain ⟨hc147, hf148, B', H'⟩ := at_stc B H
          replace B := B'; clear B'
          replace H := H'; clear H'
          refine stp0 rfl rfl (r_store (v1 := .pointer (some p146)) (v2 := .int .i64 (IntKind.i64.wrap (y144 - 2))) rfl rfl rfl (st1 rfl sz3 hc147 hf148)) ?_
          refine fin ?_
          refine n109 _ _ ?_
          exact n102 _ _ ⟨s1_b3_2, _, _, fr_self rfl, B, H⟩
        · replace H := at_itef hb138 H
          refine c_seq (fun Q151 n149 o150 => ?_)
          refine c_region ?_
          refine stp (v := .bool (y108 == 2)) rfl rfl (r_eql (a := y108) (b := 2) rfl rfl rfl) ?_
          refine stp (v := .bool (y108 == 2)) rfl rfl (r_assign rfl rfl) ?_
          refine fin ?_
          refine n149 _ _ ?_
          refine c_cond (b := y108 == 2) rfl (fun hb152 => ?_) (fun hb152 => ?_)
          · replace H := at_itet hb152 H
            refine c_region ?_
            refine stp (v := .pointer a0) rfl rfl (r_move rfl rfl) ?_
            refine stpc rfl rfl (r_call (vs := [.pointer a0, .int .i64 5]) rfl rfl (ca19 _ _)) ?_
            refine at_call B H (fun y153 w B H => ?_)
            refine stp (v := .pointer (some ⟨g12, 2, none⟩)) rfl rfl (r_fieldAddr (v1 := .pointer (some ⟨g12, 0, none⟩)) rfl rfl (fld26_2 _ _)) ?_
            obtain ⟨w2, hr, B, H⟩ := B.st1 H (i := 0) (j := 2) (T := 3) (v := .int .i64 y153) (ad := ⟨g12, 2, none⟩) rfl rfl rfl rfl sz3
            refine stp0 rfl rfl (r_store (v1 := .pointer (some ⟨g12, 2, none⟩)) (v2 := .int .i64 y153) rfl rfl rfl hr) ?_
            replace B : Bx _ _ [⟨g12, 26, #[Sl.v s1_b3_0, Sl.v s1_b3_1, .int .i64 y153]⟩, ⟨g5, 26, #[Sl.v Sl.nil, Sl.v Sl.nil, .int .i64 0]⟩] := B
            clear hr
            refine fin ?_
            refine n109 _ _ ?_
            exact n102 _ _ ⟨y153, _, _, fr_self rfl, B, H⟩
          · replace H := at_itef hb152 H
            refine c_skip ?_
            refine n109 _ _ ?_
            exact n102 _ _ ⟨s1_b3_2, _, _, fr_self rfl, B, H⟩
    ·
      rintro _ w ⟨j4_b3_2, g, N, rfl, B, H⟩
      refine c_seq (fun Q156 n154 o155 => ?_)
      refine c_region ?_
      refine stp (v := .agg #[Sl.v s1_b3_0, Sl.v s1_b3_1, .int .i64 j4_b3_2]) rfl rfl (r_load (v1 := .pointer (some ⟨g12, 0, none⟩)) rfl rfl (bxn (B.get 0 rfl) Try.underlying26 rfl sz26)) ?_
      obtain ⟨w2, hr, B, H⟩ := B.stn H (i := 1) (T := 26) (cs' := #[Sl.v s1_b3_0, Sl.v s1_b3_1, .int .i64 j4_b3_2]) (ad := ⟨g5, 0, none⟩) rfl rfl rfl rfl sz26
      refine stp0 rfl rfl (r_store (v1 := .pointer (some ⟨g5, 0, none⟩)) (v2 := .agg #[Sl.v s1_b3_0, Sl.v s1_b3_1, .int .i64 j4_b3_2]) rfl rfl rfl hr) ?_
      replace B : Bx _ _ [⟨g12, 26, #[Sl.v s1_b3_0, Sl.v s1_b3_1, .int .i64 j4_b3_2]⟩, ⟨g5, 26, #[Sl.v s1_b3_0, Sl.v s1_b3_1, .int .i64 j4_b3_2]⟩] := B
      clear hr
      refine fin ?_
      refine n154 _ _ ?_
      refine c_ret ((done (vs := [.agg #[Sl.v s1_b3_0, Sl.v s1_b3_1, .int .i64 j4_b3_2]]) (.cell rfl (bxn (B.get 1 rfl) Try.underlying26 rfl sz26) .nil) rfl ⟨_, rfl, H.now⟩))
def f19_spec_l1Cur_pick.J1 (R : Value → World → Prop) (a1 : Int) (j1_5 : Int) : Tm :=
  T.ass (a1 ≠ 0) (T.ret R (.int .i64 (j1_5.tmod a1)))
def f19_spec_l1Cur_pick.T (R : Value → World → Prop) (a0 : (Option Addr)) (a1 : Int) : Tm :=
  T.ite (decide (a1 ≤ 1)) (T.ret R (.int .i64 0)) (T.call Try.prog 50 [.pointer a0] (Value.int .i64) fun (y17 : Int) => T.ite (decide (200 < a1)) (T.call Try.prog 50 [.pointer a0] (Value.int .i64) fun (y25 : Int) => f19_spec_l1Cur_pick.J1 R a1 (IntKind.i64.wrap ((IntKind.i64.wrap (y17 * 256)) + y25))) (f19_spec_l1Cur_pick.J1 R a1 y17))
set_option maxHeartbeats 4000000 in
set_option maxRecDepth 100000 in
theorem f19_spec_l1Cur_pick.ok (R : Value → World → Prop) (a0 : (Option Addr)) (a1 : Int) (w : World) (h : Aft w (fun _ => False) (f19_spec_l1Cur_pick.T R a0 a1)) :
    Calls Try.prog 19 (List.toArray [.pointer a0, .int .i64 a1]) w fun e w' => ∃ v, e = .returned v ∧ R v w' := by
  refine enter 20 Try.func19 rfl rfl rfl ?_
  have B := Bx.nil w
  have H := h
  clear h
  refine c_seq (fun Q3 n1 o2 => ?_)
  refine c_region ?_
  refine stp (v := .int .i64 0) rfl rfl (r_assign rfl rfl) ?_
  refine fin ?_
  refine n1 _ _ ?_
  refine c_seq (fun Q6 n4 o5 => ?_)
  refine c_seq (fun Q9 n7 o8 => ?_)
  refine c_region ?_
  refine stp (v := .int .i64 a1) rfl rfl (r_move rfl rfl) ?_
  refine stp (v := .bool (decide (a1 ≤ 1))) rfl rfl (r_leq (a := a1) (b := 1) rfl rfl rfl) ?_
  refine fin ?_
  refine n7 _ _ ?_
  refine c_cond (b := decide (a1 ≤ 1)) rfl (fun hb10 => ?_) (fun hb10 => ?_)
  · replace H := at_itet hb10 H
    refine c_seq (fun Q13 n11 o12 => ?_)
    refine c_region ?_
    refine stp (v := .int .i64 0) rfl rfl (r_assign rfl rfl) ?_
    refine fin ?_
    refine n11 _ _ ?_
    refine c_ret (o5 _ _ _ nofun ((done (vs := [.int .i64 0]) (.tmp rfl .nil) rfl ⟨_, rfl, H.now⟩)))
  · replace H := at_itef hb10 H
    refine c_skip ?_
    refine n4 _ _ ?_
    refine c_seq (fun Q16 n14 o15 => ?_)
    refine c_region ?_
    refine stp (v := .pointer a0) rfl rfl (r_move rfl rfl) ?_
    refine stpc rfl rfl (r_call (vs := [.pointer a0]) rfl rfl (ca50 _ _)) ?_
    refine at_call B H (fun y17 w B H => ?_)
    refine stp (v := .int .i64 y17) rfl rfl (r_assign rfl rfl) ?_
    refine fin ?_
    refine n14 _ _ ?_
    refine c_seqj (fun a w => ∃ (j1_5 : Int) (g : Nat → Value) (N : NP), a = A 20 (updl g [(1, .int .i64 a1), (5, .int .i64 j1_5)]) ∧ Bx w N [] ∧ Aft w N (f19_spec_l1Cur_pick.J1 R a1 j1_5)) (fun Q20 n18 o19 => ?_) ?_
    ·
      refine c_seq (fun Q23 n21 o22 => ?_)
      refine c_region ?_
      refine stp (v := .int .i64 a1) rfl rfl (r_move rfl rfl) ?_
      refine stp (v := .bool (decide (200 < a1))) rfl rfl (r_gtr (a := a1) (b := 200) rfl rfl rfl) ?_
      refine fin ?_
      refine n21 _ _ ?_
      refine c_cond (b := decide (200 < a1)) rfl (fun hb24 => ?_) (fun hb24 => ?_)
      · replace H := at_itet hb24 H
        refine c_region ?_
        refine stp (v := .int .i64 y17) rfl rfl (r_move rfl rfl) ?_
        refine stp (v := .int .i64 (IntKind.i64.wrap (y17 * 256))) rfl rfl (r_mul (a := y17) (b := 256) rfl rfl rfl) ?_
        refine stp (v := .pointer a0) rfl rfl (r_move rfl rfl) ?_
        refine stpc rfl rfl (r_call (vs := [.pointer a0]) rfl rfl (ca50 _ _)) ?_
        refine at_call B H (fun y25 w B H => ?_)
        refine stp (v := .int .i64 (IntKind.i64.wrap ((IntKind.i64.wrap (y17 * 256)) + y25))) rfl rfl (r_add (a := IntKind.i64.wrap (y17 * 256)) (b := y25) rfl rfl rfl) ?_
        refine stp (v := .int .i64 (IntKind.i64.wrap ((IntKind.i64.wrap (y17 * 256)) + y25))) rfl rfl (r_assign rfl rfl) ?_
        refine fin ?_
        exact n18 _ _ ⟨IntKind.i64.wrap ((IntKind.i64.wrap (y17 * 256)) + y25), _, _, fr_self rfl, B, H⟩
      · replace H := at_itef hb24 H
        refine c_skip ?_
        exact n18 _ _ ⟨y17, _, _, fr_self rfl, B, H⟩
    ·
      rintro _ w ⟨j1_5, g, N, rfl, B, H⟩
      refine c_seq (fun Q28 n26 o27 => ?_)
      refine c_region ?_
      refine stp (v := .int .i64 j1_5) rfl rfl (r_move rfl rfl) ?_
      refine stp (v := .int .i64 a1) rfl rfl (r_move rfl rfl) ?_
      obtain ⟨ha, H'⟩ := at_ass H
      replace H := H'; clear H'
      refine stp (v := .int .i64 (j1_5.tmod a1)) rfl rfl (r_rem (a := j1_5) (b := a1) rfl rfl rfl ha) ?_
      clear ha
      refine stp (v := .int .i64 (j1_5.tmod a1)) rfl rfl (r_assign rfl rfl) ?_
      refine fin ?_
      refine n26 _ _ ?_
      refine c_ret ((done (vs := [.int .i64 (j1_5.tmod a1)]) (.tmp rfl .nil) rfl ⟨_, rfl, H.now⟩))
def f20_spec_l1Cur_of.T (R : Value → World → Prop) (a0 : (Option Addr)) (a1 : Sl) : Tm :=
  T.call Try.prog 19 [.pointer a0, .int .i64 (a1.n : Int)] (Value.int .i64) fun (y7 : Int) => T.idx a1 y7 1 fun (p9 : Addr) => T.ldc p9 Value.string fun (x10 : ByteArray) => T.ret R (.string x10)
set_option maxHeartbeats 4000000 in
set_option maxRecDepth 100000 in
theorem f20_spec_l1Cur_of.ok (R : Value → World → Prop) (a0 : (Option Addr)) (a1 : Sl) (w : World) (h : Aft w (fun _ => False) (f20_spec_l1Cur_of.T R a0 a1)) :
    Calls Try.prog 20 (List.toArray [.pointer a0, Sl.v a1]) w fun e w' => ∃ v, e = .returned v ∧ R v w' := by
  refine enter 12 Try.func20 rfl rfl rfl ?_
  have B := Bx.nil w
  have H := h
  clear h
  refine c_seq (fun Q3 n1 o2 => ?_)
  refine c_region ?_
  refine stp (v := .string (⟨#[]⟩ : ByteArray)) rfl rfl (r_assign rfl rfl) ?_
  refine fin ?_
  refine n1 _ _ ?_
  refine c_seq (fun Q6 n4 o5 => ?_)
  refine c_region ?_
  refine stp (v := Sl.v a1) rfl rfl (r_move rfl rfl) ?_
  refine stp (v := .pointer a0) rfl rfl (r_move rfl rfl) ?_
  refine stp (v := Sl.v a1) rfl rfl (r_move rfl rfl) ?_
  refine stp (v := .int .i64 (a1.n : Int)) rfl rfl (r_builtin (vs := [Sl.v a1]) rfl rfl (fun _ => lenl Try.underlying32)) ?_
  refine stpc rfl rfl (r_call (vs := [.pointer a0, .int .i64 (a1.n : Int)]) rfl rfl (ca19 _ _)) ?_
  refine at_call B H (fun y7 w B H => ?_)
  obtain ⟨p8, p9, he, h0, h1, hpa, H'⟩ := at_idx' H
  replace H := H'; clear H'
  refine stp (v := .pointer (some p9)) rfl rfl (r_indexAddr (v1 := Sl.v a1) (v2 := .int .i64 y7) rfl rfl rfl (ix' Try.underlying32 sz9 he h0 h1 hpa)) ?_
  clear he h0 h1 hpa
  obtain ⟨x10, hx11, H'⟩ := at_ldc H
  replace H := H'; clear H'
  refine stp (v := .string x10) rfl rfl (r_load (v1 := .pointer (some p9)) rfl rfl (ld1 Try.underlying9 rfl (hx11 _ (Below.refl _ _)))) ?_
  refine stp (v := .string x10) rfl rfl (r_assign rfl rfl) ?_
  refine fin ?_
  refine n4 _ _ ?_
  refine c_ret ((done (vs := [.string x10]) (.tmp rfl .nil) rfl ⟨_, rfl, H.now⟩))
def f21_impl_isRoot.J1 (R : Value → World → Prop) (j1_4 : Bool) : Tm :=
  T.ret R (.bool j1_4)
def f21_impl_isRoot.T (R : Value → World → Prop) (a0_0 : Sl) (a0_1 : Sl) (a0_2 : Int) (a1 : Int) : Tm :=
  T.call Try.prog 8 [.agg #[Sl.v a0_0, Sl.v a0_1, .int .i64 a0_2]] Value.bool fun (y9 : Bool) => T.ite y9 (T.call Try.prog 22 [.int .i64 a1, .int .i64 0, .int .i64 (IntKind.i64.wrap ((a0_1.n : Int) - 1))] Value.bool fun (y11 : Bool) => f21_impl_isRoot.J1 R  y11) (f21_impl_isRoot.J1 R  false)
set_option maxHeartbeats 4000000 in
set_option maxRecDepth 100000 in
theorem f21_impl_isRoot.ok (R : Value → World → Prop) (a0_0 : Sl) (a0_1 : Sl) (a0_2 : Int) (a1 : Int) (w : World) (h : Aft w (fun _ => False) (f21_impl_isRoot.T R a0_0 a0_1 a0_2 a1)) :
    Calls Try.prog 21 (List.toArray [.agg #[Sl.v a0_0, Sl.v a0_1, .int .i64 a0_2], .int .i64 a1]) w fun e w' => ∃ v, e = .returned v ∧ R v w' := by
  refine enter 15 Try.func21 rfl rfl rfl ?_
  have B := Bx.nil w
  have H := h
  clear h
  refine c_seq (fun Q3 n1 o2 => ?_)
  refine c_region ?_
  obtain ⟨w4, N, g5, hw, hg, B, H⟩ := B.new H 26 #[Sl.v a0_0, Sl.v a0_1, .int .i64 a0_2]
  refine stp (v := .pointer (some ⟨g5, 0, none⟩)) (w' := w4) rfl rfl (r_box (v1 := .agg #[Sl.v a0_0, Sl.v a0_1, .int .i64 a0_2]) rfl rfl (box_run rfl hw hg)) ?_
  clear hw hg
  refine stp (v := .bool false) rfl rfl (r_assign rfl rfl) ?_
  refine fin ?_
  refine n1 _ _ ?_
  refine c_seqj (fun a w => ∃ (j1_4 : Bool) (g : Nat → Value) (N : NP), a = A 15 (updl g [(4, .bool j1_4)]) ∧ Bx w N [⟨g5, 26, #[Sl.v a0_0, Sl.v a0_1, .int .i64 a0_2]⟩] ∧ Aft w N (f21_impl_isRoot.J1 R  j1_4)) (fun Q8 n6 o7 => ?_) ?_
  ·
    refine c_region ?_
    refine stp (v := .agg #[Sl.v a0_0, Sl.v a0_1, .int .i64 a0_2]) rfl rfl (r_load (v1 := .pointer (some ⟨g5, 0, none⟩)) rfl rfl (bxn (B.get 0 rfl) Try.underlying26 rfl sz26)) ?_
    refine stpc rfl rfl (r_call (vs := [.agg #[Sl.v a0_0, Sl.v a0_1, .int .i64 a0_2]]) rfl rfl (ca8 _ _)) ?_
    refine at_call B H (fun y9 w B H => ?_)
    refine stp (v := .bool y9) rfl rfl (r_move rfl rfl) ?_
    rcases Bool.eq_false_or_eq_true (y9) with hb10 | hb10
    · replace H := at_itet hb10 H
      refine stp (v := .int .i64 a1) (wn rfl rfl rfl rfl (congrArg Value.bool hb10)) rfl (r_move rfl rfl) ?_
      refine stp (v := .pointer (some ⟨g5, 1, none⟩)) (wn rfl rfl rfl rfl (congrArg Value.bool hb10)) rfl (r_fieldAddr (v1 := .pointer (some ⟨g5, 0, none⟩)) rfl rfl (fld26_1 _ _)) ?_
      refine stp (v := Sl.v a0_1) (wn rfl rfl rfl rfl (congrArg Value.bool hb10)) rfl (r_load (v1 := .pointer (some ⟨g5, 1, none⟩)) rfl rfl (ld1 Try.underlying24 rfl (bx1 (B.get 0 rfl) rfl rfl))) ?_
      refine stp (v := .int .i64 (a0_1.n : Int)) (wn rfl rfl rfl rfl (congrArg Value.bool hb10)) rfl (r_builtin (vs := [Sl.v a0_1]) rfl rfl (fun _ => lenl Try.underlying24)) ?_
      refine stp (v := .int .i64 (IntKind.i64.wrap ((a0_1.n : Int) - 1))) (wn rfl rfl rfl rfl (congrArg Value.bool hb10)) rfl (r_sub (a := (a0_1.n : Int)) (b := 1) rfl rfl rfl) ?_
      refine stpc (wn rfl rfl rfl rfl (congrArg Value.bool hb10)) rfl (r_call (vs := [.int .i64 a1, .int .i64 0, .int .i64 (IntKind.i64.wrap ((a0_1.n : Int) - 1))]) rfl rfl (ca22 _ _)) ?_
      refine at_call B H (fun y11 w B H => ?_)
      refine stp (v := .bool y11) rfl rfl (r_pickt rfl (congrArg Value.bool hb10) rfl) ?_
      refine stp (v := .bool y11) rfl rfl (r_assign rfl rfl) ?_
      refine fin ?_
      exact n6 _ _ ⟨y11, _, _, fr_self rfl, B, H⟩
    · replace H := at_itef hb10 H
      refine skp (un rfl rfl rfl rfl (congrArg Value.bool hb10) nofun) rfl ?_
      refine skp (un rfl rfl rfl rfl (congrArg Value.bool hb10) nofun) rfl ?_
      refine skp (un rfl rfl rfl rfl (congrArg Value.bool hb10) nofun) rfl ?_
      refine skp (un rfl rfl rfl rfl (congrArg Value.bool hb10) nofun) rfl ?_
      refine skp (un rfl rfl rfl rfl (congrArg Value.bool hb10) nofun) rfl ?_
      refine skp (un rfl rfl rfl rfl (congrArg Value.bool hb10) nofun) rfl ?_
      refine stp (v := .bool false) rfl rfl (r_pickf rfl (congrArg Value.bool hb10) rfl) ?_
      refine stp (v := .bool false) rfl rfl (r_assign rfl rfl) ?_
      refine fin ?_
      exact n6 _ _ ⟨false, _, _, fr_self rfl, B, H⟩
  ·
    rintro _ w ⟨j1_4, g, N, rfl, B, H⟩
    refine c_ret ((done (vs := [.bool j1_4]) (.tmp rfl .nil) rfl ⟨_, rfl, H.now⟩))
def f22_impl_within.J1 (R : Value → World → Prop) (j1_6 : Bool) : Tm :=
  T.ret R (.bool j1_6)
def f22_impl_within.T (R : Value → World → Prop) (a0 : Int) (a1 : Int) (a2 : Int) : Tm :=
  T.ite (decide (a1 ≤ a0)) (f22_impl_within.J1 R  (decide (a0 ≤ a2))) (f22_impl_within.J1 R  false)
set_option maxHeartbeats 4000000 in
set_option maxRecDepth 100000 in
theorem f22_impl_within.ok (R : Value → World → Prop) (a0 : Int) (a1 : Int) (a2 : Int) (w : World) (h : Aft w (fun _ => False) (f22_impl_within.T R a0 a1 a2)) :
    Calls Try.prog 22 (List.toArray [.int .i64 a0, .int .i64 a1, .int .i64 a2]) w fun e w' => ∃ v, e = .returned v ∧ R v w' := by
  refine enter 15 Try.func22 rfl rfl rfl ?_
  have B := Bx.nil w
  have H := h
  clear h
  refine c_seq (fun Q3 n1 o2 => ?_)
  refine c_region ?_
  refine stp (v := .bool false) rfl rfl (r_assign rfl rfl) ?_
  refine fin ?_
  refine n1 _ _ ?_
  refine c_seqj (fun a w => ∃ (j1_6 : Bool) (g : Nat → Value) (N : NP), a = A 15 (updl g [(6, .bool j1_6)]) ∧ Bx w N [] ∧ Aft w N (f22_impl_within.J1 R  j1_6)) (fun Q6 n4 o5 => ?_) ?_
  ·
    refine c_region ?_
    refine stp (v := .int .i64 a0) rfl rfl (r_move rfl rfl) ?_
    refine stp (v := .int .i64 a1) rfl rfl (r_move rfl rfl) ?_
    refine stp (v := .bool (decide (a1 ≤ a0))) rfl rfl (r_geq (a := a0) (b := a1) rfl rfl rfl) ?_
    refine stp (v := .bool (decide (a1 ≤ a0))) rfl rfl (r_move rfl rfl) ?_
    rcases Bool.eq_false_or_eq_true (decide (a1 ≤ a0)) with hb7 | hb7
    · replace H := at_itet hb7 H
      refine stp (v := .int .i64 a0) (wn rfl rfl rfl rfl (congrArg Value.bool hb7)) rfl (r_move rfl rfl) ?_
      refine stp (v := .int .i64 a2) (wn rfl rfl rfl rfl (congrArg Value.bool hb7)) rfl (r_move rfl rfl) ?_
      refine stp (v := .bool (decide (a0 ≤ a2))) (wn rfl rfl rfl rfl (congrArg Value.bool hb7)) rfl (r_leq (a := a0) (b := a2) rfl rfl rfl) ?_
      refine stp (v := .bool (decide (a0 ≤ a2))) rfl rfl (r_pickt rfl (congrArg Value.bool hb7) rfl) ?_
      refine stp (v := .bool (decide (a0 ≤ a2))) rfl rfl (r_assign rfl rfl) ?_
      refine fin ?_
      exact n4 _ _ ⟨decide (a0 ≤ a2), _, _, fr_self rfl, B, H⟩
    · replace H := at_itef hb7 H
      refine skp (un rfl rfl rfl rfl (congrArg Value.bool hb7) nofun) rfl ?_
      refine skp (un rfl rfl rfl rfl (congrArg Value.bool hb7) nofun) rfl ?_
      refine skp (un rfl rfl rfl rfl (congrArg Value.bool hb7) nofun) rfl ?_
      refine stp (v := .bool false) rfl rfl (r_pickf rfl (congrArg Value.bool hb7) rfl) ?_
      refine stp (v := .bool false) rfl rfl (r_assign rfl rfl) ?_
      refine fin ?_
      exact n4 _ _ ⟨false, _, _, fr_self rfl, B, H⟩
  ·
    rintro _ w ⟨j1_6, g, N, rfl, B, H⟩
    refine c_ret ((done (vs := [.bool j1_6]) (.tmp rfl .nil) rfl ⟨_, rfl, H.now⟩))
def f23_impl_Cow_places.T (R : Value → World → Prop) (a0_0 : Sl) (a0_1 : Sl) (a0_2 : Int) : Tm :=
  T.ass (0 ≤ (IntKind.i64.wrap (2 * (IntKind.i64.wrap (a0_2 - 1))))) (T.ret R (.int .i64 (IntKind.i64.wrap (1 * 2 ^ min (IntKind.i64.wrap (2 * (IntKind.i64.wrap (a0_2 - 1)))).toNat (IntKind.i64.bits)))))
set_option maxHeartbeats 4000000 in
set_option maxRecDepth 100000 in
theorem f23_impl_Cow_places.ok (R : Value → World → Prop) (a0_0 : Sl) (a0_1 : Sl) (a0_2 : Int) (w : World) (h : Aft w (fun _ => False) (f23_impl_Cow_places.T R a0_0 a0_1 a0_2)) :
    Calls Try.prog 23 (List.toArray [.agg #[Sl.v a0_0, Sl.v a0_1, .int .i64 a0_2]]) w fun e w' => ∃ v, e = .returned v ∧ R v w' := by
  refine enter 8 Try.func23 rfl rfl rfl ?_
  have B := Bx.nil w
  have H := h
  clear h
  refine c_seq (fun Q3 n1 o2 => ?_)
  refine c_region ?_
  obtain ⟨w4, N, g5, hw, hg, B, H⟩ := B.new H 26 #[Sl.v a0_0, Sl.v a0_1, .int .i64 a0_2]
  refine stp (v := .pointer (some ⟨g5, 0, none⟩)) (w' := w4) rfl rfl (r_box (v1 := .agg #[Sl.v a0_0, Sl.v a0_1, .int .i64 a0_2]) rfl rfl (box_run rfl hw hg)) ?_
  clear hw hg
  refine stp (v := .int .i64 0) rfl rfl (r_assign rfl rfl) ?_
  refine fin ?_
  refine n1 _ _ ?_
  refine c_seq (fun Q8 n6 o7 => ?_)
  refine c_region ?_
  refine stp (v := .pointer (some ⟨g5, 2, none⟩)) rfl rfl (r_fieldAddr (v1 := .pointer (some ⟨g5, 0, none⟩)) rfl rfl (fld26_2 _ _)) ?_
  refine stp (v := .int .i64 a0_2) rfl rfl (r_load (v1 := .pointer (some ⟨g5, 2, none⟩)) rfl rfl (ld1 Try.underlying3 rfl (bx1 (B.get 0 rfl) rfl rfl))) ?_
  refine stp (v := .int .i64 (IntKind.i64.wrap (a0_2 - 1))) rfl rfl (r_sub (a := a0_2) (b := 1) rfl rfl rfl) ?_
  refine stp (v := .int .i64 (IntKind.i64.wrap (2 * (IntKind.i64.wrap (a0_2 - 1))))) rfl rfl (r_mul (a := 2) (b := IntKind.i64.wrap (a0_2 - 1)) rfl rfl rfl) ?_
  obtain ⟨ha, H'⟩ := at_ass H
  replace H := H'; clear H'
  refine stp (v := .int .i64 (IntKind.i64.wrap (1 * 2 ^ min (IntKind.i64.wrap (2 * (IntKind.i64.wrap (a0_2 - 1)))).toNat (IntKind.i64.bits)))) rfl rfl (r_shl (a := 1) (b := IntKind.i64.wrap (2 * (IntKind.i64.wrap (a0_2 - 1)))) rfl rfl rfl ha) ?_
  clear ha
  refine stp (v := .int .i64 (IntKind.i64.wrap (1 * 2 ^ min (IntKind.i64.wrap (2 * (IntKind.i64.wrap (a0_2 - 1)))).toNat (IntKind.i64.bits)))) rfl rfl (r_assign rfl rfl) ?_
  refine fin ?_
  refine n6 _ _ ?_
  refine c_ret ((done (vs := [.int .i64 (IntKind.i64.wrap (1 * 2 ^ min (IntKind.i64.wrap (2 * (IntKind.i64.wrap (a0_2 - 1)))).toNat (IntKind.i64.bits)))]) (.tmp rfl .nil) rfl ⟨_, rfl, H.now⟩))
def f24_impl_ownCow.L1 (R : Value → World → Prop) (a0_0 : Sl) (g16 : Nat) (s1_16 : Int) (next30 : (Int) → Tm) : Tm :=
  T.ite (decide (s1_16 < (a0_0.n : Int))) (T.idx a0_0 s1_16 3 fun (p49 : Addr) => T.ldc (p49.add 0) (Value.int .i64) fun (x50_0 : Int) => T.ldc (p49.add 1) Value.string fun (x50_1 : ByteArray) => T.ldc (p49.add 2) Sl.v fun (x50_2 : Sl) => T.call Try.prog 51 [Sl.v x50_2] Sl.v fun (y59 : Sl) => T.ldc ((⟨g16, 0, none⟩ : Addr).add 0) Sl.v fun (x60 : Sl) => T.new (.cells #[.int .i64 x50_0, .string x50_1, Sl.v y59] 70) fun (g67 : Nat) => T.chk ((⟨g16, 0, none⟩ : Addr).add 0) Sl.v x60 (T.run Try.prog (Builtin.append_ #[23, 23] 23 #[Sl.v x60, Sl.v (⟨some ⟨g67, 0, none⟩, 1, 1⟩ : Sl)]) Sl.v fun (y73 : Sl) => T.stc ((⟨g16, 0, none⟩ : Addr).add 0) (Sl.v y73) (next30 (IntKind.i64.wrap (s1_16 + 1))))) (T.ret R (.pointer (some (⟨g16, 0, none⟩ : Addr))))
def f24_impl_ownCow.T (R : Value → World → Prop) (a0_0 : Sl) (a0_1 : Sl) (a0_2 : Int) : Tm :=
  T.call Try.prog 51 [Sl.v a0_1] Sl.v fun (y14 : Sl) => T.new (.cells #[Sl.v Sl.nil, Sl.v y14, .int .i64 a0_2] 26) fun (g16 : Nat) => T.loop (fun (s : Int) next => f24_impl_ownCow.L1 R a0_0 g16 s (fun (z0 : Int) => next z0)) 0
set_option maxHeartbeats 4000000 in
set_option maxRecDepth 100000 in
theorem f24_impl_ownCow.ok (R : Value → World → Prop) (a0_0 : Sl) (a0_1 : Sl) (a0_2 : Int) (w : World) (h : Aft w (fun _ => False) (f24_impl_ownCow.T R a0_0 a0_1 a0_2)) :
    Calls Try.prog 24 (List.toArray [.agg #[Sl.v a0_0, Sl.v a0_1, .int .i64 a0_2]]) w fun e w' => ∃ v, e = .returned v ∧ R v w' := by
  refine enter 36 Try.func24 rfl rfl rfl ?_
  have B := Bx.nil w
  have H := h
  clear h
  refine c_seq (fun Q3 n1 o2 => ?_)
  refine c_region ?_
  obtain ⟨w4, N, g5, hw, hg, B, H⟩ := B.new H 26 #[Sl.v a0_0, Sl.v a0_1, .int .i64 a0_2]
  refine stp (v := .pointer (some ⟨g5, 0, none⟩)) (w' := w4) rfl rfl (r_box (v1 := .agg #[Sl.v a0_0, Sl.v a0_1, .int .i64 a0_2]) rfl rfl (box_run rfl hw hg)) ?_
  clear hw hg
  refine stp (v := .pointer none) rfl rfl (r_assign rfl rfl) ?_
  refine fin ?_
  refine n1 _ _ ?_
  refine c_seq (fun Q8 n6 o7 => ?_)
  refine c_open 5 (kap [2] []) (fun i b => .pointer (some ⟨b, 0, none⟩)) (fun _ => []) (fun i => []) [0, 1, 3, 4, 2] [] [] _ rfl (by kernel_rfl) (by kernel_rfl) rfl B (flk (by simp) al_nil) ?_
  refine ph_q (v := .pointer (some ⟨g5, 1, none⟩)) rfl rfl rfl (hv_ok rfl rfl) (qy_val rfl (fun w_ ρ_ hb_ => (r_fieldAddr (v1 := .pointer (some ⟨g5, 0, none⟩)) rfl rfl (fld26_1 _ _)))) ?_
  refine ph_q (v := Sl.v a0_1) rfl rfl rfl (hv_ok rfl rfl) (qy_val rfl (fun w_ ρ_ hb_ => (r_load (v1 := .pointer (some ⟨g5, 1, none⟩)) rfl rfl (ld1 Try.underlying24 rfl (bx1 (hb_.get 0 rfl) rfl rfl))))) ?_
  refine ph_q (v := .pointer (some ⟨g5, 2, none⟩)) rfl rfl rfl (hv_ok rfl rfl) (qy_val rfl (fun w_ ρ_ hb_ => (r_fieldAddr (v1 := .pointer (some ⟨g5, 0, none⟩)) rfl rfl (fld26_2 _ _)))) ?_
  refine ph_q (v := .int .i64 a0_2) rfl rfl rfl (hv_ok rfl rfl) (qy_val rfl (fun w_ ρ_ hb_ => (r_load (v1 := .pointer (some ⟨g5, 2, none⟩)) rfl rfl (ld1 Try.underlying3 rfl (bx1 (hb_.get 0 rfl) rfl rfl))))) ?_
  refine ph_e rfl rfl (fun w9 ρ13 hc hs => ?_)
  obtain ⟨hx, N10, hz11, B12⟩ := hc
  replace H := H.step hz11
  clear hz11
  refine ef_call rfl (r_call (vs := [Sl.v a0_1]) rfl rfl (ca51 _ _)) (at_call B12 H (fun y14 w2 B H => ?_))
  refine ⟨Cls w2 N10 [⟨g5, 26, #[Sl.v a0_0, Sl.v a0_1, .int .i64 a0_2]⟩] [] [], Cls.now hx B, (flk (by simp) al_nil), (pd_anc (re := [4, 3]) (by kernel_rfl) (re_cons rfl rfl rfl (qy_val rfl (fun w_ ρ_ hb_ => (r_load (v1 := .pointer (some ⟨g5, 2, none⟩)) rfl rfl (ld1 Try.underlying3 rfl (bx1 (hb_.get 0 rfl) rfl rfl))))) (re_cons rfl rfl rfl (qy_val rfl (fun w_ ρ_ hb_ => (r_fieldAddr (v1 := .pointer (some ⟨g5, 0, none⟩)) rfl rfl (fld26_2 _ _)))) re_nil))), ?_⟩
  clear hx
  replace B := B.sub (List.sublist_append_right _ _)
  refine ph_nil0 (fun w N hz B => ?_)
  replace H := H.step hz
  refine stp (v := .agg #[Sl.v Sl.nil, Sl.v y14, .int .i64 a0_2]) rfl rfl (r_build (qs := [(1, Sl.v y14), (2, .int .i64 a0_2)]) rfl rfl (site6 y14 a0_2 _)) ?_
  obtain ⟨w15, g16, hw, hg, B, H⟩ := at_new' B H
  refine stp (v := .pointer (some ⟨g16, 0, none⟩)) (w' := w15) rfl rfl (r_box (v1 := .agg #[Sl.v Sl.nil, Sl.v y14, .int .i64 a0_2]) rfl rfl (box_run rfl hw hg)) ?_
  clear hw hg
  refine stp (v := .pointer (some (⟨g16, 0, none⟩ : Addr))) rfl rfl (r_assign rfl rfl) ?_
  refine fin ?_
  refine n6 _ _ ?_
  refine c_seq (fun Q19 n17 o18 => ?_)
  refine c_seq (fun Q22 n20 o21 => ?_)
  refine c_region ?_
  refine stp (v := .pointer (some ⟨g5, 0, none⟩)) rfl rfl (r_fieldAddr (v1 := .pointer (some ⟨g5, 0, none⟩)) rfl rfl (fld26_0 _ _)) ?_
  refine stp (v := Sl.v a0_0) rfl rfl (r_load (v1 := .pointer (some ⟨g5, 0, none⟩)) rfl rfl (ld1 Try.underlying23 rfl (bx1 (B.get 0 rfl) rfl rfl))) ?_
  refine stp (v := .int .i64 (a0_0.n : Int)) rfl rfl (r_builtin (vs := [Sl.v a0_0]) rfl rfl (fun _ => lenl Try.underlying23)) ?_
  refine stp (v := .int .i64 0) rfl rfl (r_move rfl rfl) ?_
  refine fin ?_
  refine n20 _ _ ?_
  refine c_block (fun Q26 n23 x25 o24 => ?_)
  refine c_loop (σ := Int) (s0 := 0) (fun s => [(3, .pointer (some (⟨g16, 0, none⟩ : Addr))), (14, Sl.v a0_0), (15, .int .i64 (a0_0.n : Int)), (16, .int .i64 s)]) (fun s => [⟨g5, 26, #[Sl.v a0_0, Sl.v a0_1, .int .i64 a0_2]⟩]) B H rfl ?_
  rintro Q29 next30 s1_16 g w N nx27 o28 B H
  refine c_seq (fun Q33 n31 o32 => ?_)
  refine c_region ?_
  refine stp (v := .bool (decide (s1_16 < (a0_0.n : Int)))) rfl rfl (r_lss (a := s1_16) (b := (a0_0.n : Int)) rfl rfl rfl) ?_
  refine fin ?_
  refine n31 _ _ ?_
  refine c_seq (fun Q36 n34 o35 => ?_)
  refine c_cond (b := decide (s1_16 < (a0_0.n : Int))) rfl (fun hb37 => ?_) (fun hb37 => ?_)
  · replace H := at_itet hb37 H
    refine c_skip ?_
    refine n34 _ _ ?_
    refine c_seq (fun Q40 n38 o39 => ?_)
    refine c_block (fun Q44 n41 x43 o42 => ?_)
    refine c_seq (fun Q47 n45 o46 => ?_)
    refine c_region ?_
    obtain ⟨p48, p49, he, h0, h1, hpa, H'⟩ := at_idx' H
    replace H := H'; clear H'
    refine stp (v := .pointer (some p49)) rfl rfl (r_indexAddr (v1 := Sl.v a0_0) (v2 := .int .i64 s1_16) rfl rfl rfl (ix' Try.underlying23 sz70 he h0 h1 hpa)) ?_
    clear he h0 h1 hpa
    obtain ⟨x50_0, hx51, H'⟩ := at_ldc H
    replace H := H'; clear H'
    obtain ⟨x50_1, hx52, H'⟩ := at_ldc H
    replace H := H'; clear H'
    obtain ⟨x50_2, hx53, H'⟩ := at_ldc H
    replace H := H'; clear H'
    refine stp (v := .agg #[.int .i64 x50_0, .string x50_1, Sl.v x50_2]) rfl rfl (r_load (v1 := .pointer (some p49)) rfl rfl (ldn (cs := [.int .i64 x50_0, .string x50_1, Sl.v x50_2]) Try.underlying70 rfl sz70 (cells_start (cells_cons (m := 0) (hx51 _ (Below.refl _ _)) (cells_cons (m := 1) (hx52 _ (Below.refl _ _)) (cells_cons (m := 2) (hx53 _ (Below.refl _ _)) cells_nil)))))) ?_
    obtain ⟨w54, N, g55, hw, hg, B, H⟩ := B.new H 70 #[.int .i64 0, .string (⟨#[]⟩ : ByteArray), Sl.v Sl.nil]
    refine stp (v := .pointer (some ⟨g55, 0, none⟩)) (w' := w54) rfl rfl (r_alloc rfl (alloc_run (al70 _) hw hg)) ?_
    clear hw hg
    obtain ⟨w2, hr, B, H⟩ := B.stn H (i := 0) (T := 70) (cs' := #[.int .i64 x50_0, .string x50_1, Sl.v x50_2]) (ad := ⟨g55, 0, none⟩) rfl rfl rfl rfl sz70
    refine stp0 rfl rfl (r_store (v1 := .pointer (some ⟨g55, 0, none⟩)) (v2 := .agg #[.int .i64 x50_0, .string x50_1, Sl.v x50_2]) rfl rfl rfl hr) ?_
    replace B : Bx _ _ [⟨g55, 70, #[.int .i64 x50_0, .string x50_1, Sl.v x50_2]⟩, ⟨g5, 26, #[Sl.v a0_0, Sl.v a0_1, .int .i64 a0_2]⟩] := B
    clear hr
    refine fin ?_
    refine n45 _ _ ?_
    refine c_seq (fun Q58 n56 o57 => ?_)
    refine c_region ?_
    refine stp (v := .pointer (some ⟨g55, 2, none⟩)) rfl rfl (r_fieldAddr (v1 := .pointer (some ⟨g55, 0, none⟩)) rfl rfl (fld70_2 _ _)) ?_
    refine stp (v := Sl.v x50_2) rfl rfl (r_load (v1 := .pointer (some ⟨g55, 2, none⟩)) rfl rfl (ld1 Try.underlying24 rfl (bx1 (B.get 0 rfl) rfl rfl))) ?_
    refine stpc rfl rfl (r_call (vs := [Sl.v x50_2]) rfl rfl (ca51 _ _)) ?_
    refine at_call B H (fun y59 w B H => ?_)
    refine stp (v := .pointer (some ⟨g55, 2, none⟩)) rfl rfl (r_fieldAddr (v1 := .pointer (some ⟨g55, 0, none⟩)) rfl rfl (fld70_2 _ _)) ?_
    obtain ⟨w2, hr, B, H⟩ := B.st1 H (i := 0) (j := 2) (T := 24) (v := Sl.v y59) (ad := ⟨g55, 2, none⟩) rfl rfl rfl rfl sz24
    refine stp0 rfl rfl (r_store (v1 := .pointer (some ⟨g55, 2, none⟩)) (v2 := Sl.v y59) rfl rfl rfl hr) ?_
    replace B : Bx _ _ [⟨g55, 70, #[.int .i64 x50_0, .string x50_1, Sl.v y59]⟩, ⟨g5, 26, #[Sl.v a0_0, Sl.v a0_1, .int .i64 a0_2]⟩] := B
    clear hr
    refine fin ?_
    refine n56 _ _ ?_
    refine c_open 8 (kap [6, 7] []) (fun i b => .pointer (some ⟨b, 0, none⟩)) (fun _ => []) (fun i => []) [0, 1, 2, 3, 4, 5, 6, 7] [] [] _ rfl (by kernel_rfl) (by kernel_rfl) rfl B (flk (by simp) al_nil) ?_
    refine ph_q (v := .pointer (some (⟨g16, 0, none⟩ : Addr))) rfl rfl rfl (hv_ok rfl rfl) (qy_val rfl (fun w_ ρ_ hb_ => (r_move rfl rfl))) ?_
    refine ph_q (v := .pointer (some (⟨g16, 0, none⟩ : Addr))) rfl rfl rfl (hv_ok rfl rfl) (qy_val rfl (fun w_ ρ_ hb_ => (r_move rfl rfl))) ?_
    refine ph_q (v := .pointer (some (⟨g16, 0, none⟩ : Addr))) rfl rfl rfl (hv_ok rfl rfl) (qy_val rfl (fun w_ ρ_ hb_ => (r_nn rfl rfl))) ?_
    refine ph_q (v := .pointer (some ((⟨g16, 0, none⟩ : Addr).add 0))) rfl rfl rfl (hv_ok rfl rfl) (qy_val rfl (fun w_ ρ_ hb_ => (r_fieldAddr (v1 := .pointer (some (⟨g16, 0, none⟩ : Addr))) rfl rfl (fld26_0 _ _)))) ?_
    obtain ⟨x60, hx61, H'⟩ := at_ldcz H
    replace H := H'; clear H'
    refine ph_q (v := Sl.v x60) rfl rfl rfl (hv_ok rfl rfl) (qy_val rfl (fun w_ ρ_ hb_ => (r_load (v1 := .pointer (some ((⟨g16, 0, none⟩ : Addr).add 0))) rfl rfl (ld1 Try.underlying23 rfl (Cls.ld hx61 hb_))))) ?_
    refine ph_q (v := .agg #[.int .i64 x50_0, .string x50_1, Sl.v y59]) rfl rfl rfl (hv_ok rfl rfl) (qy_val rfl (fun w_ ρ_ hb_ => (r_load (v1 := .pointer (some ⟨g55, 0, none⟩)) rfl rfl (bxn (hb_.get 0 rfl) Try.underlying70 rfl sz70)))) ?_
    refine ph_e rfl rfl (fun w62 ρ66 hc hs => ?_)
    obtain ⟨hx, N63, hz64, B65⟩ := hc
    replace H := H.step hz64
    clear hz64
    obtain ⟨w2, g67, hw, hg, B, H⟩ := at_new' B65 H
    refine ef_val (v := Sl.v (⟨some ⟨g67, 0, none⟩, 1, 1⟩ : Sl)) (w' := w2) rfl (r_buildSlice (qs := [(0, .agg #[.int .i64 x50_0, .string x50_1, Sl.v y59])]) rfl rfl (bs_run (site7 x50_0 x50_1 y59 _) hw hg)) ?_
    clear hw hg
    replace H := at_chk H; obtain ⟨hx61, H'⟩ := H; replace H := H'; clear H'
    refine ⟨Cls w2 N63 [⟨g55, 70, #[.int .i64 x50_0, .string x50_1, Sl.v y59]⟩, ⟨g5, 26, #[Sl.v a0_0, Sl.v a0_1, .int .i64 a0_2]⟩] [] [], Cls.now hx B, (flk (by simp) al_nil), (pd_anc (re := [4, 3, 2, 1, 0]) (by kernel_rfl) (re_cons rfl rfl rfl (qy_val rfl (fun w_ ρ_ hb_ => (r_load (v1 := .pointer (some ((⟨g16, 0, none⟩ : Addr).add 0))) rfl rfl (ld1 Try.underlying23 rfl (Cls.ld hx61 hb_))))) (re_cons rfl rfl rfl (qy_val rfl (fun w_ ρ_ hb_ => (r_fieldAddr (v1 := .pointer (some (⟨g16, 0, none⟩ : Addr))) rfl rfl (fld26_0 _ _)))) (re_cons rfl rfl rfl (qy_val rfl (fun w_ ρ_ hb_ => (r_nn rfl rfl))) (re_cons rfl rfl rfl (qy_val rfl (fun w_ ρ_ hb_ => (r_move rfl rfl))) (re_cons rfl rfl rfl (qy_val rfl (fun w_ ρ_ hb_ => (r_move rfl rfl))) re_nil)))))), ?_⟩
    clear hx
    replace B := B.sub (List.sublist_append_right _ _)
    refine ph_e rfl rfl (fun w68 ρ72 hc hs => ?_)
    obtain ⟨hx, N69, hz70, B71⟩ := hc
    replace H := H.step hz70
    clear hz70
    obtain ⟨y73, w2, hr, B, H⟩ := at_run B71 H
    refine ef_val (v := Sl.v y73) rfl (r_builtin (vs := [Sl.v x60, Sl.v (⟨some ⟨g67, 0, none⟩, 1, 1⟩ : Sl)]) rfl rfl (fun _ => bi_append hr)) ?_
    clear hr
    refine ⟨Cls w2 N69 [⟨g55, 70, #[.int .i64 x50_0, .string x50_1, Sl.v y59]⟩, ⟨g5, 26, #[Sl.v a0_0, Sl.v a0_1, .int .i64 a0_2]⟩] [] [], Cls.now hx B, (flk (by simp) al_nil), (pd_anc (re := [0]) (by kernel_rfl) (re_cons rfl rfl rfl (qy_val rfl (fun w_ ρ_ hb_ => (r_move rfl rfl))) re_nil)), ?_⟩
    clear hx
    replace B := B.sub (List.sublist_append_right _ _)
    refine ph_nil0 (fun w N hz B => ?_)
    replace H := H.step hz
    refine stp (v := .pointer (some (⟨g16, 0, none⟩ : Addr))) rfl rfl (r_nn rfl rfl) ?_
    refine stp (v := .pointer (some ((⟨g16, 0, none⟩ : Addr).add 0))) rfl rfl (r_fieldAddr (v1 := .pointer (some (⟨g16, 0, none⟩ : Addr))) rfl rfl (fld26_0 _ _)) ?_
    obtain ⟨hc74, hf75, B', H'⟩ := at_stc B H
    replace B := B'; clear B'
    replace H := H'; clear H'
    refine stp0 rfl rfl (r_store (v1 := .pointer (some ((⟨g16, 0, none⟩ : Addr).add 0))) (v2 := Sl.v y73) rfl rfl rfl (st1 rfl sz23 hc74 hf75)) ?_
    refine fin ?_
    refine n41 _ _ ?_
    refine n38 _ _ ?_
    refine c_region ?_
    refine stp (v := .int .i64 (IntKind.i64.wrap (s1_16 + 1))) rfl rfl (r_add (a := s1_16) (b := 1) rfl rfl rfl) ?_
    refine stp (v := .int .i64 (IntKind.i64.wrap (s1_16 + 1))) rfl rfl (r_move rfl rfl) ?_
    refine fin ?_
    exact nx27 (IntKind.i64.wrap (s1_16 + 1)) _ _ _ (B.sub (List.Sublist.cons _ (List.Sublist.refl _))) H rfl
  · replace H := at_itef hb37 H
    refine c_exit (o35 _ _ _ nofun (o28 _ _ _ nofun (x25 _ _ ?_)))
    refine n17 _ _ ?_
    refine c_seq (fun Q78 n76 o77 => ?_)
    refine c_region ?_
    refine stp (v := .pointer (some (⟨g16, 0, none⟩ : Addr))) rfl rfl (r_move rfl rfl) ?_
    refine stp (v := .pointer (some (⟨g16, 0, none⟩ : Addr))) rfl rfl (r_assign rfl rfl) ?_
    refine fin ?_
    refine n76 _ _ ?_
    refine c_ret ((done (vs := [.pointer (some (⟨g16, 0, none⟩ : Addr))]) (.tmp rfl .nil) rfl ⟨_, rfl, H.now⟩))
def f25_impl_Cow_leafAt.J2 (R : Value → World → Prop) (a0_0 : Sl) (a2 : Int) (next26 : (Int) → (Int) → Tm) (s1_7 : Int) (s1_8 : Int) (j2_21 : Bool) : Tm :=
  T.ite j2_21 (T.idx a0_0 s1_7 3 fun (p43 : Addr) => T.ldc (p43.add 2) Sl.v fun (x44 : Sl) => T.callq Try.prog 52 [.int .i64 a2, .int .i64 s1_8] (Value.int .i64) fun (y46 : Int) => T.idx x44 y46 1 fun (p48 : Addr) => T.ldc p48 (Value.int .i64) fun (x49 : Int) => next26 x49 (IntKind.i64.wrap (s1_8 - 1))) (T.ite (decide (s1_7 < 0)) (T.ret R (.string (⟨#[]⟩ : ByteArray))) (T.idx a0_0 s1_7 3 fun (p65 : Addr) => T.ldc (p65.add 1) Value.string fun (x66 : ByteArray) => T.ret R (.string x66)))
def f25_impl_Cow_leafAt.L1 (R : Value → World → Prop) (a0_0 : Sl) (a2 : Int) (s1_7 : Int) (s1_8 : Int) (next26 : (Int) → (Int) → Tm) : Tm :=
  T.ite (decide (0 ≤ s1_7)) (f25_impl_Cow_leafAt.J2 R a0_0 a2 next26 s1_7 s1_8 (decide (1 < s1_8))) (f25_impl_Cow_leafAt.J2 R a0_0 a2 next26 s1_7 s1_8 false)
def f25_impl_Cow_leafAt.T (R : Value → World → Prop) (a0_0 : Sl) (a0_1 : Sl) (a0_2 : Int) (a1 : Int) (a2 : Int) : Tm :=
  T.idx a0_1 a1 1 fun (p10 : Addr) => T.ldc p10 (Value.int .i64) fun (x11 : Int) => T.loop (fun (s : Int × Int) next => f25_impl_Cow_leafAt.L1 R a0_0 a2 s.1 s.2 (fun (z0 : Int) (z1 : Int) => next (z0, z1))) (x11, a0_2)
set_option maxHeartbeats 4000000 in
set_option maxRecDepth 100000 in
theorem f25_impl_Cow_leafAt.ok (R : Value → World → Prop) (a0_0 : Sl) (a0_1 : Sl) (a0_2 : Int) (a1 : Int) (a2 : Int) (w : World) (h : Aft w (fun _ => False) (f25_impl_Cow_leafAt.T R a0_0 a0_1 a0_2 a1 a2)) :
    Calls Try.prog 25 (List.toArray [.agg #[Sl.v a0_0, Sl.v a0_1, .int .i64 a0_2], .int .i64 a1, .int .i64 a2]) w fun e w' => ∃ v, e = .returned v ∧ R v w' := by
  refine enter 43 Try.func25 rfl rfl rfl ?_
  have B := Bx.nil w
  have H := h
  clear h
  refine c_seq (fun Q3 n1 o2 => ?_)
  refine c_region ?_
  obtain ⟨w4, N, g5, hw, hg, B, H⟩ := B.new H 26 #[Sl.v a0_0, Sl.v a0_1, .int .i64 a0_2]
  refine stp (v := .pointer (some ⟨g5, 0, none⟩)) (w' := w4) rfl rfl (r_box (v1 := .agg #[Sl.v a0_0, Sl.v a0_1, .int .i64 a0_2]) rfl rfl (box_run rfl hw hg)) ?_
  clear hw hg
  refine stp (v := .string (⟨#[]⟩ : ByteArray)) rfl rfl (r_assign rfl rfl) ?_
  refine fin ?_
  refine n1 _ _ ?_
  refine c_seq (fun Q8 n6 o7 => ?_)
  refine c_region ?_
  refine stp (v := .pointer (some ⟨g5, 1, none⟩)) rfl rfl (r_fieldAddr (v1 := .pointer (some ⟨g5, 0, none⟩)) rfl rfl (fld26_1 _ _)) ?_
  refine stp (v := Sl.v a0_1) rfl rfl (r_load (v1 := .pointer (some ⟨g5, 1, none⟩)) rfl rfl (ld1 Try.underlying24 rfl (bx1 (B.get 0 rfl) rfl rfl))) ?_
  refine stp (v := .int .i64 a1) rfl rfl (r_move rfl rfl) ?_
  obtain ⟨p9, p10, he, h0, h1, hpa, H'⟩ := at_idx' H
  replace H := H'; clear H'
  refine stp (v := .pointer (some p10)) rfl rfl (r_indexAddr (v1 := Sl.v a0_1) (v2 := .int .i64 a1) rfl rfl rfl (ix' Try.underlying24 sz3 he h0 h1 hpa)) ?_
  clear he h0 h1 hpa
  obtain ⟨x11, hx12, H'⟩ := at_ldc H
  replace H := H'; clear H'
  refine stp (v := .int .i64 x11) rfl rfl (r_load (v1 := .pointer (some p10)) rfl rfl (ld1 Try.underlying3 rfl (hx12 _ (Below.refl _ _)))) ?_
  refine stp (v := .int .i64 x11) rfl rfl (r_assign rfl rfl) ?_
  refine fin ?_
  refine n6 _ _ ?_
  refine c_seq (fun Q15 n13 o14 => ?_)
  refine c_seq (fun Q18 n16 o17 => ?_)
  refine c_region ?_
  refine stp (v := .pointer (some ⟨g5, 2, none⟩)) rfl rfl (r_fieldAddr (v1 := .pointer (some ⟨g5, 0, none⟩)) rfl rfl (fld26_2 _ _)) ?_
  refine stp (v := .int .i64 a0_2) rfl rfl (r_load (v1 := .pointer (some ⟨g5, 2, none⟩)) rfl rfl (ld1 Try.underlying3 rfl (bx1 (B.get 0 rfl) rfl rfl))) ?_
  refine stp (v := .int .i64 a0_2) rfl rfl (r_assign rfl rfl) ?_
  refine fin ?_
  refine n16 _ _ ?_
  refine c_block (fun Q22 n19 x21 o20 => ?_)
  refine c_loop (σ := Int × Int) (s0 := (x11, a0_2)) (fun s => [(2, .int .i64 a2), (3, .pointer (some ⟨g5, 0, none⟩)), (7, .int .i64 s.1), (8, .int .i64 s.2)]) (fun s => [⟨g5, 26, #[Sl.v a0_0, Sl.v a0_1, .int .i64 a0_2]⟩]) B H rfl ?_
  rintro Q25 next26 ⟨s1_7, s1_8⟩ g w N nx23 o24 B H
  refine c_seq (fun Q29 n27 o28 => ?_)
  refine c_seqj (fun a w => ∃ (j2_21 : Bool) (g : Nat → Value) (N : NP), a = A 43 (updl g [(2, .int .i64 a2), (3, .pointer (some ⟨g5, 0, none⟩)), (7, .int .i64 s1_7), (8, .int .i64 s1_8), (21, .bool j2_21)]) ∧ Bx w N [⟨g5, 26, #[Sl.v a0_0, Sl.v a0_1, .int .i64 a0_2]⟩] ∧ Aft w N (f25_impl_Cow_leafAt.J2 R a0_0 a2 (fun (z0 : Int) (z1 : Int) => next26 (z0, z1)) s1_7 s1_8 j2_21)) (fun Q32 n30 o31 => ?_) ?_
  ·
    refine c_region ?_
    refine stp (v := .int .i64 s1_7) rfl rfl (r_move rfl rfl) ?_
    refine stp (v := .bool (decide (0 ≤ s1_7))) rfl rfl (r_geq (a := s1_7) (b := 0) rfl rfl rfl) ?_
    refine stp (v := .bool (decide (0 ≤ s1_7))) rfl rfl (r_move rfl rfl) ?_
    rcases Bool.eq_false_or_eq_true (decide (0 ≤ s1_7)) with hb33 | hb33
    · replace H := at_itet hb33 H
      refine stp (v := .int .i64 s1_8) (wn rfl rfl rfl rfl (congrArg Value.bool hb33)) rfl (r_move rfl rfl) ?_
      refine stp (v := .bool (decide (1 < s1_8))) (wn rfl rfl rfl rfl (congrArg Value.bool hb33)) rfl (r_gtr (a := s1_8) (b := 1) rfl rfl rfl) ?_
      refine stp (v := .bool (decide (1 < s1_8))) rfl rfl (r_pickt rfl (congrArg Value.bool hb33) rfl) ?_
      refine fin ?_
      exact n30 _ _ ⟨decide (1 < s1_8), _, _, fr_self rfl, B, H⟩
    · replace H := at_itef hb33 H
      refine skp (un rfl rfl rfl rfl (congrArg Value.bool hb33) nofun) rfl ?_
      refine skp (un rfl rfl rfl rfl (congrArg Value.bool hb33) nofun) rfl ?_
      refine stp (v := .bool false) rfl rfl (r_pickf rfl (congrArg Value.bool hb33) rfl) ?_
      refine fin ?_
      exact n30 _ _ ⟨false, _, _, fr_self rfl, B, H⟩
  ·
    rintro _ w ⟨j2_21, g, N, rfl, B, H⟩
    refine c_cond (b := j2_21) rfl (fun hb34 => ?_) (fun hb34 => ?_)
    · replace H := at_itet hb34 H
      refine c_skip ?_
      refine n27 _ _ ?_
      refine c_seq (fun Q37 n35 o36 => ?_)
      refine c_block (fun Q41 n38 x40 o39 => ?_)
      refine c_quiet rfl (by kernel_rfl) ?_
      refine qstp (v := .pointer (some ⟨g5, 0, none⟩)) rfl rfl (fun w_ hb_ => (r_fieldAddr (v1 := .pointer (some ⟨g5, 0, none⟩)) rfl rfl (fld26_0 _ _))) ?_
      refine qstp (v := Sl.v a0_0) rfl rfl (fun w_ hb_ => (r_load (v1 := .pointer (some ⟨g5, 0, none⟩)) rfl rfl (ld1 Try.underlying23 rfl (bx1 ((B.quiet (Qt.of_below hb_)).get 0 rfl) rfl rfl)))) ?_
      refine qstp (v := .int .i64 s1_7) rfl rfl (fun w_ hb_ => (r_move rfl rfl)) ?_
      obtain ⟨p42, p43, he, h0, h1, hpa, H'⟩ := at_idx' H
      replace H := H'; clear H'
      refine qstp (v := .pointer (some p43)) rfl rfl (fun w_ hb_ => (r_indexAddr (v1 := Sl.v a0_0) (v2 := .int .i64 s1_7) rfl rfl rfl (ix' Try.underlying23 sz70 he h0 h1 hpa))) ?_
      clear he h0 h1 hpa
      refine qstp (v := .pointer (some (p43.add 2))) rfl rfl (fun w_ hb_ => (r_fieldAddr (v1 := .pointer (some p43)) rfl rfl (fld70_2 _ _))) ?_
      obtain ⟨x44, hx45, H'⟩ := at_ldc H
      replace H := H'; clear H'
      refine qstp (v := Sl.v x44) rfl rfl (fun w_ hb_ => (r_load (v1 := .pointer (some (p43.add 2))) rfl rfl (ld1 Try.underlying24 rfl (hx45 _ hb_)))) ?_
      refine qstp (v := .int .i64 a2) rfl rfl (fun w_ hb_ => (r_move rfl rfl)) ?_
      refine qstp (v := .int .i64 s1_8) rfl rfl (fun w_ hb_ => (r_move rfl rfl)) ?_
      obtain ⟨y46, hC, H'⟩ := at_callq H
      replace H := H'; clear H'
      refine qstpc (v := .int .i64 y46) rfl rfl (fun w_ hb_ => r_call (vs := [.int .i64 a2, .int .i64 s1_8]) rfl rfl (ca52 _ _)) (fun w_ hb_ => hC w_ hb_) ?_
      clear hC
      obtain ⟨p47, p48, he, h0, h1, hpa, H'⟩ := at_idx' H
      replace H := H'; clear H'
      refine qstp (v := .pointer (some p48)) rfl rfl (fun w_ hb_ => (r_indexAddr (v1 := Sl.v x44) (v2 := .int .i64 y46) rfl rfl rfl (ix' Try.underlying24 sz3 he h0 h1 hpa))) ?_
      clear he h0 h1 hpa
      obtain ⟨x49, hx50, H'⟩ := at_ldc H
      replace H := H'; clear H'
      refine qstp (v := .int .i64 x49) rfl rfl (fun w_ hb_ => (r_load (v1 := .pointer (some p48)) rfl rfl (ld1 Try.underlying3 rfl (hx50 _ hb_)))) ?_
      refine qstp (v := .int .i64 x49) rfl rfl (fun w_ hb_ => (r_assign rfl rfl)) ?_
      refine qfin (fun w hb => ?_)
      replace B := B.quiet (Qt.of_below hb)
      replace H := H.step (Nz.of_below hb)
      refine n38 _ _ ?_
      refine n35 _ _ ?_
      refine c_region ?_
      refine stp (v := .int .i64 s1_8) rfl rfl (r_move rfl rfl) ?_
      refine stp (v := .int .i64 (IntKind.i64.wrap (s1_8 - 1))) rfl rfl (r_sub (a := s1_8) (b := 1) rfl rfl rfl) ?_
      refine stp (v := .int .i64 (IntKind.i64.wrap (s1_8 - 1))) rfl rfl (r_assign rfl rfl) ?_
      refine fin ?_
      exact nx23 ⟨x49, IntKind.i64.wrap (s1_8 - 1)⟩ _ _ _ B H rfl
    · replace H := at_itef hb34 H
      refine c_exit (o28 _ _ _ nofun (o24 _ _ _ nofun (x21 _ _ ?_)))
      refine n13 _ _ ?_
      refine c_seq (fun Q53 n51 o52 => ?_)
      refine c_seq (fun Q56 n54 o55 => ?_)
      refine c_region ?_
      refine stp (v := .int .i64 s1_7) rfl rfl (r_move rfl rfl) ?_
      refine stp (v := .bool (decide (s1_7 < 0))) rfl rfl (r_lss (a := s1_7) (b := 0) rfl rfl rfl) ?_
      refine fin ?_
      refine n54 _ _ ?_
      refine c_cond (b := decide (s1_7 < 0)) rfl (fun hb57 => ?_) (fun hb57 => ?_)
      · replace H := at_itet hb57 H
        refine c_seq (fun Q60 n58 o59 => ?_)
        refine c_region ?_
        refine stp (v := .string (⟨#[]⟩ : ByteArray)) rfl rfl (r_assign rfl rfl) ?_
        refine fin ?_
        refine n58 _ _ ?_
        refine c_ret (o52 _ _ _ nofun ((done (vs := [.string (⟨#[]⟩ : ByteArray)]) (.tmp rfl .nil) rfl ⟨_, rfl, H.now⟩)))
      · replace H := at_itef hb57 H
        refine c_skip ?_
        refine n51 _ _ ?_
        refine c_seq (fun Q63 n61 o62 => ?_)
        refine c_region ?_
        refine stp (v := .pointer (some ⟨g5, 0, none⟩)) rfl rfl (r_fieldAddr (v1 := .pointer (some ⟨g5, 0, none⟩)) rfl rfl (fld26_0 _ _)) ?_
        refine stp (v := Sl.v a0_0) rfl rfl (r_load (v1 := .pointer (some ⟨g5, 0, none⟩)) rfl rfl (ld1 Try.underlying23 rfl (bx1 (B.get 0 rfl) rfl rfl))) ?_
        refine stp (v := .int .i64 s1_7) rfl rfl (r_move rfl rfl) ?_
        obtain ⟨p64, p65, he, h0, h1, hpa, H'⟩ := at_idx' H
        replace H := H'; clear H'
        refine stp (v := .pointer (some p65)) rfl rfl (r_indexAddr (v1 := Sl.v a0_0) (v2 := .int .i64 s1_7) rfl rfl rfl (ix' Try.underlying23 sz70 he h0 h1 hpa)) ?_
        clear he h0 h1 hpa
        refine stp (v := .pointer (some (p65.add 1))) rfl rfl (r_fieldAddr (v1 := .pointer (some p65)) rfl rfl (fld70_1 _ _)) ?_
        obtain ⟨x66, hx67, H'⟩ := at_ldc H
        replace H := H'; clear H'
        refine stp (v := .string x66) rfl rfl (r_load (v1 := .pointer (some (p65.add 1))) rfl rfl (ld1 Try.underlying9 rfl (hx67 _ (Below.refl _ _)))) ?_
        refine stp (v := .string x66) rfl rfl (r_assign rfl rfl) ?_
        refine fin ?_
        refine n61 _ _ ?_
        refine c_ret ((done (vs := [.string x66]) (.tmp rfl .nil) rfl ⟨_, rfl, H.now⟩))
def f26_impl_Cow_put.J2 (R : Value → World → Prop) (a0 : (Option Addr)) (y7 : Int) (j2_78 : Bool) : Tm :=
  T.ite j2_78 (T.nn a0 fun (p95 : Addr) => T.ldc (p95.add 0) Sl.v fun (x97 : Sl) => T.idx x97 y7 3 fun (p100 : Addr) => T.stc (p100.add 0) (.int .i64 0) (T.stc (p100.add 1) (.string (⟨#[]⟩ : ByteArray)) (T.stc (p100.add 2) (Sl.v Sl.nil) (T.ret R (.int .i64 (-1)))))) (T.ret R (.int .i64 y7))
def f26_impl_Cow_put.J1 (R : Value → World → Prop) (a0 : (Option Addr)) (a2 : Int) (y7 : Int) : Tm :=
  T.nn a0 fun (p73 : Addr) => T.ldc (p73.add 0) Sl.v fun (x75 : Sl) => T.idx x75 y7 3 fun (p78 : Addr) => T.ldc (p78.add 0) (Value.int .i64) fun (x79_0 : Int) => T.ldc (p78.add 1) Value.string fun (x79_1 : ByteArray) => T.ldc (p78.add 2) Sl.v fun (x79_2 : Sl) => T.ite (x79_1.toList == (⟨#[]⟩ : ByteArray).toList) (T.ite (a2 == 1) (f26_impl_Cow_put.J2 R a0 y7 true) (T.call Try.prog 54 [Sl.v x79_2] (Value.int .i64) fun (y90 : Int) => f26_impl_Cow_put.J2 R a0 y7 (decide (y90 < 0)))) (f26_impl_Cow_put.J2 R a0 y7 false)
def f26_impl_Cow_put.T (R : Value → World → Prop) (a0 : (Option Addr)) (a1 : Int) (a2 : Int) (a3 : Int) (a4 : ByteArray) : Tm :=
  T.call Try.prog 53 [.pointer a0, .int .i64 a1, .int .i64 a2] (Value.int .i64) fun (y7 : Int) => T.ite (a2 == 1) (T.nn a0 fun (p15 : Addr) => T.ldc (p15.add 0) Sl.v fun (x17 : Sl) => T.idx x17 y7 3 fun (p20 : Addr) => T.stc (p20.add 1) (.string a4) (f26_impl_Cow_put.J1 R a0 a2 y7 )) (T.nn a0 fun (p26 : Addr) => T.ldc (p26.add 0) Sl.v fun (x28 : Sl) => T.idx x28 y7 3 fun (p31 : Addr) => T.ldc (p31.add 2) Sl.v fun (x36 : Sl) => T.callq Try.prog 52 [.int .i64 a3, .int .i64 a2] (Value.int .i64) fun (y38 : Int) => T.idx x36 y38 1 fun (p41 : Addr) => T.ldc p41 (Value.int .i64) fun (x46 : Int) => T.call Try.prog 26 [.pointer a0, .int .i64 x46, .int .i64 (IntKind.i64.wrap (a2 - 1)), .int .i64 a3, .string a4] (Value.int .i64) fun (y48 : Int) => T.nn a0 fun (p49 : Addr) => T.ldc (p49.add 0) Sl.v fun (x51 : Sl) => T.idx x51 y7 3 fun (p54 : Addr) => T.ldc (p54.add 2) Sl.v fun (x59 : Sl) => T.callq Try.prog 52 [.int .i64 a3, .int .i64 a2] (Value.int .i64) fun (y61 : Int) => T.idx x59 y61 1 fun (p64 : Addr) => T.stc p64 (.int .i64 y48) (f26_impl_Cow_put.J1 R a0 a2 y7 ))
set_option maxHeartbeats 4000000 in
set_option maxRecDepth 100000 in
theorem f26_impl_Cow_put.ok (R : Value → World → Prop) (a0 : (Option Addr)) (a1 : Int) (a2 : Int) (a3 : Int) (a4 : ByteArray) (w : World) (h : Aft w (fun _ => False) (f26_impl_Cow_put.T R a0 a1 a2 a3 a4)) :
    Calls Try.prog 26 (List.toArray [.pointer a0, .int .i64 a1, .int .i64 a2, .int .i64 a3, .string a4]) w fun e w' => ∃ v, e = .returned v ∧ R v w' := by
  refine enter 87 Try.func26 rfl rfl rfl ?_
  have B := Bx.nil w
  have H := h
  clear h
  refine c_seq (fun Q3 n1 o2 => ?_)
  refine c_region ?_
  refine stp (v := .int .i64 0) rfl rfl (r_assign rfl rfl) ?_
  refine fin ?_
  refine n1 _ _ ?_
  refine c_seq (fun Q6 n4 o5 => ?_)
  refine c_region ?_
  refine stp (v := .pointer a0) rfl rfl (r_move rfl rfl) ?_
  refine stp (v := .int .i64 a1) rfl rfl (r_move rfl rfl) ?_
  refine stp (v := .int .i64 a2) rfl rfl (r_move rfl rfl) ?_
  refine stpc rfl rfl (r_call (vs := [.pointer a0, .int .i64 a1, .int .i64 a2]) rfl rfl (ca53 _ _)) ?_
  refine at_call B H (fun y7 w B H => ?_)
  refine stp (v := .int .i64 y7) rfl rfl (r_assign rfl rfl) ?_
  refine fin ?_
  refine n4 _ _ ?_
  refine c_seqj (fun a w => ∃ (g : Nat → Value) (N : NP), a = A 87 (updl g [(0, .pointer a0), (1, .int .i64 y7), (2, .int .i64 a2)]) ∧ Bx w N [] ∧ Aft w N (f26_impl_Cow_put.J1 R a0 a2 y7 )) (fun Q10 n8 o9 => ?_) ?_
  ·
    refine c_seq (fun Q13 n11 o12 => ?_)
    refine c_region ?_
    refine stp (v := .int .i64 a2) rfl rfl (r_move rfl rfl) ?_
    refine stp (v := .bool (a2 == 1)) rfl rfl (r_eql (a := a2) (b := 1) rfl rfl rfl) ?_
    refine fin ?_
    refine n11 _ _ ?_
    refine c_cond (b := a2 == 1) rfl (fun hb14 => ?_) (fun hb14 => ?_)
    · replace H := at_itet hb14 H
      refine c_region ?_
      refine stp (v := .pointer a0) rfl rfl (r_move rfl rfl) ?_
      obtain ⟨p15, hp16, H'⟩ := at_nn H
      replace H := H'; clear H'
      refine stp (v := .pointer (some p15)) rfl rfl (r_nn rfl (congrArg Value.pointer hp16)) ?_
      refine stp (v := .pointer (some (p15.add 0))) rfl rfl (r_fieldAddr (v1 := .pointer (some p15)) rfl rfl (fld26_0 _ _)) ?_
      obtain ⟨x17, hx18, H'⟩ := at_ldc H
      replace H := H'; clear H'
      refine stp (v := Sl.v x17) rfl rfl (r_load (v1 := .pointer (some (p15.add 0))) rfl rfl (ld1 Try.underlying23 rfl (hx18 _ (Below.refl _ _)))) ?_
      refine stp (v := .int .i64 y7) rfl rfl (r_move rfl rfl) ?_
      refine stp (v := .string a4) rfl rfl (r_move rfl rfl) ?_
      obtain ⟨p19, p20, he, h0, h1, hpa, H'⟩ := at_idx' H
      replace H := H'; clear H'
      refine stp (v := .pointer (some p20)) rfl rfl (r_indexAddr (v1 := Sl.v x17) (v2 := .int .i64 y7) rfl rfl rfl (ix' Try.underlying23 sz70 he h0 h1 hpa)) ?_
      clear he h0 h1 hpa
      refine stp (v := .pointer (some (p20.add 1))) rfl rfl (r_fieldAddr (v1 := .pointer (some p20)) rfl rfl (fld70_1 _ _)) ?_
      obtain ⟨hc21, hf22, B', H'⟩ := at_stc B H
      replace B := B'; clear B'
      replace H := H'; clear H'
      refine stp0 rfl rfl (r_store (v1 := .pointer (some (p20.add 1))) (v2 := .string a4) rfl rfl rfl (st1 rfl sz9 hc21 hf22)) ?_
      refine fin ?_
      exact n8 _ _ ⟨_, _, fr_self rfl, B, H⟩
    · replace H := at_itef hb14 H
      refine c_seq (fun Q25 n23 o24 => ?_)
      refine c_open 18 (kap [] []) (fun i b => .pointer (some ⟨b, 0, none⟩)) (fun _ => []) (fun i => []) [0, 1, 2, 3, 4, 5, 6, 7, 8, 9, 10, 11, 12, 13, 14, 15, 16, 17] [] [] _ rfl (by kernel_rfl) (by kernel_rfl) rfl B (flk (by simp) al_nil) ?_
      refine ph_q (v := .pointer a0) rfl rfl rfl (hv_ok rfl rfl) (qy_val rfl (fun w_ ρ_ hb_ => (r_move rfl rfl))) ?_
      refine ph_q (v := .pointer a0) rfl rfl rfl (hv_ok rfl rfl) (qy_val rfl (fun w_ ρ_ hb_ => (r_move rfl rfl))) ?_
      obtain ⟨p26, hp27, H'⟩ := at_nn H
      replace H := H'; clear H'
      refine ph_q (v := .pointer (some p26)) rfl rfl rfl (hv_ok rfl rfl) (qy_val rfl (fun w_ ρ_ hb_ => (r_nn rfl (congrArg Value.pointer hp27)))) ?_
      refine ph_q (v := .pointer (some (p26.add 0))) rfl rfl rfl (hv_ok rfl rfl) (qy_val rfl (fun w_ ρ_ hb_ => (r_fieldAddr (v1 := .pointer (some p26)) rfl rfl (fld26_0 _ _)))) ?_
      obtain ⟨x28, hx29, H'⟩ := at_ldcz H
      replace H := H'; clear H'
      refine ph_q (v := Sl.v x28) rfl rfl rfl (hv_ok rfl rfl) (qy_val rfl (fun w_ ρ_ hb_ => (r_load (v1 := .pointer (some (p26.add 0))) rfl rfl (ld1 Try.underlying23 rfl (Cls.ld hx29 hb_))))) ?_
      refine ph_q (v := .int .i64 y7) rfl rfl rfl (hv_ok rfl rfl) (qy_val rfl (fun w_ ρ_ hb_ => (r_move rfl rfl))) ?_
      obtain ⟨p30, p31, he32, h033, h134, hpa35, H'⟩ := at_idx' H
      replace H := H'; clear H'
      refine ph_q (v := .pointer (some p31)) rfl rfl rfl (hv_ok rfl rfl) (qy_val rfl (fun w_ ρ_ hb_ => (r_indexAddr (v1 := Sl.v x28) (v2 := .int .i64 y7) rfl rfl rfl (ix' Try.underlying23 sz70 he32 h033 h134 hpa35)))) ?_
      refine ph_q (v := .pointer (some (p31.add 2))) rfl rfl rfl (hv_ok rfl rfl) (qy_val rfl (fun w_ ρ_ hb_ => (r_fieldAddr (v1 := .pointer (some p31)) rfl rfl (fld70_2 _ _)))) ?_
      obtain ⟨x36, hx37, H'⟩ := at_ldcz H
      replace H := H'; clear H'
      refine ph_q (v := Sl.v x36) rfl rfl rfl (hv_ok rfl rfl) (qy_val rfl (fun w_ ρ_ hb_ => (r_load (v1 := .pointer (some (p31.add 2))) rfl rfl (ld1 Try.underlying24 rfl (Cls.ld hx37 hb_))))) ?_
      refine ph_q (v := .int .i64 a3) rfl rfl rfl (hv_ok rfl rfl) (qy_val rfl (fun w_ ρ_ hb_ => (r_move rfl rfl))) ?_
      refine ph_q (v := .int .i64 a2) rfl rfl rfl (hv_ok rfl rfl) (qy_val rfl (fun w_ ρ_ hb_ => (r_move rfl rfl))) ?_
      obtain ⟨y38, hC39, H'⟩ := at_callqz H
      replace H := H'; clear H'
      refine ph_q (v := .int .i64 y38) rfl rfl rfl (hv_ok rfl rfl) (qy_call rfl (fun w_ ρ_ hb_ => r_call (vs := [.int .i64 a3, .int .i64 a2]) rfl rfl (ca52 _ _)) (fun w_ ρ_ hb_ => Cls.cq hC39 hb_)) ?_
      obtain ⟨p40, p41, he42, h043, h144, hpa45, H'⟩ := at_idx' H
      replace H := H'; clear H'
      refine ph_q (v := .pointer (some p41)) rfl rfl rfl (hv_ok rfl rfl) (qy_val rfl (fun w_ ρ_ hb_ => (r_indexAddr (v1 := Sl.v x36) (v2 := .int .i64 y38) rfl rfl rfl (ix' Try.underlying24 sz3 he42 h043 h144 hpa45)))) ?_
      obtain ⟨x46, hx47, H'⟩ := at_ldcz H
      replace H := H'; clear H'
      refine ph_q (v := .int .i64 x46) rfl rfl rfl (hv_ok rfl rfl) (qy_val rfl (fun w_ ρ_ hb_ => (r_load (v1 := .pointer (some p41)) rfl rfl (ld1 Try.underlying3 rfl (Cls.ld hx47 hb_))))) ?_
      refine ph_q (v := .int .i64 a2) rfl rfl rfl (hv_ok rfl rfl) (qy_val rfl (fun w_ ρ_ hb_ => (r_move rfl rfl))) ?_
      refine ph_q (v := .int .i64 (IntKind.i64.wrap (a2 - 1))) rfl rfl rfl (hv_ok rfl rfl) (qy_val rfl (fun w_ ρ_ hb_ => (r_sub (a := a2) (b := 1) rfl rfl rfl))) ?_
      refine ph_q (v := .int .i64 a3) rfl rfl rfl (hv_ok rfl rfl) (qy_val rfl (fun w_ ρ_ hb_ => (r_move rfl rfl))) ?_
      refine ph_q (v := .string a4) rfl rfl rfl (hv_ok rfl rfl) (qy_val rfl (fun w_ ρ_ hb_ => (r_move rfl rfl))) ?_
      refine ph_nil0 (fun w N hz B => ?_)
      replace H := H.step hz
      refine stpc rfl rfl (r_call (vs := [.pointer a0, .int .i64 x46, .int .i64 (IntKind.i64.wrap (a2 - 1)), .int .i64 a3, .string a4]) rfl rfl (ca26 _ _)) ?_
      refine at_call B H (fun y48 w B H => ?_)
      refine stp (v := .int .i64 y48) rfl rfl (r_assign rfl rfl) ?_
      refine fin ?_
      refine n23 _ _ ?_
      refine c_open 12 (kap [] []) (fun i b => .pointer (some ⟨b, 0, none⟩)) (fun _ => []) (fun i => []) [0, 1, 2, 3, 4, 5, 6, 7, 8, 9, 10, 11] [] [] _ rfl (by kernel_rfl) (by kernel_rfl) rfl B (flk (by simp) al_nil) ?_
      refine ph_q (v := .pointer a0) rfl rfl rfl (hv_ok rfl rfl) (qy_val rfl (fun w_ ρ_ hb_ => (r_move rfl rfl))) ?_
      obtain ⟨p49, hp50, H'⟩ := at_nn H
      replace H := H'; clear H'
      refine ph_q (v := .pointer (some p49)) rfl rfl rfl (hv_ok rfl rfl) (qy_val rfl (fun w_ ρ_ hb_ => (r_nn rfl (congrArg Value.pointer hp50)))) ?_
      refine ph_q (v := .pointer (some (p49.add 0))) rfl rfl rfl (hv_ok rfl rfl) (qy_val rfl (fun w_ ρ_ hb_ => (r_fieldAddr (v1 := .pointer (some p49)) rfl rfl (fld26_0 _ _)))) ?_
      obtain ⟨x51, hx52, H'⟩ := at_ldcz H
      replace H := H'; clear H'
      refine ph_q (v := Sl.v x51) rfl rfl rfl (hv_ok rfl rfl) (qy_val rfl (fun w_ ρ_ hb_ => (r_load (v1 := .pointer (some (p49.add 0))) rfl rfl (ld1 Try.underlying23 rfl (Cls.ld hx52 hb_))))) ?_
      refine ph_q (v := .int .i64 y7) rfl rfl rfl (hv_ok rfl rfl) (qy_val rfl (fun w_ ρ_ hb_ => (r_move rfl rfl))) ?_
      obtain ⟨p53, p54, he55, h056, h157, hpa58, H'⟩ := at_idx' H
      replace H := H'; clear H'
      refine ph_q (v := .pointer (some p54)) rfl rfl rfl (hv_ok rfl rfl) (qy_val rfl (fun w_ ρ_ hb_ => (r_indexAddr (v1 := Sl.v x51) (v2 := .int .i64 y7) rfl rfl rfl (ix' Try.underlying23 sz70 he55 h056 h157 hpa58)))) ?_
      refine ph_q (v := .pointer (some (p54.add 2))) rfl rfl rfl (hv_ok rfl rfl) (qy_val rfl (fun w_ ρ_ hb_ => (r_fieldAddr (v1 := .pointer (some p54)) rfl rfl (fld70_2 _ _)))) ?_
      obtain ⟨x59, hx60, H'⟩ := at_ldcz H
      replace H := H'; clear H'
      refine ph_q (v := Sl.v x59) rfl rfl rfl (hv_ok rfl rfl) (qy_val rfl (fun w_ ρ_ hb_ => (r_load (v1 := .pointer (some (p54.add 2))) rfl rfl (ld1 Try.underlying24 rfl (Cls.ld hx60 hb_))))) ?_
      refine ph_q (v := .int .i64 a3) rfl rfl rfl (hv_ok rfl rfl) (qy_val rfl (fun w_ ρ_ hb_ => (r_move rfl rfl))) ?_
      refine ph_q (v := .int .i64 a2) rfl rfl rfl (hv_ok rfl rfl) (qy_val rfl (fun w_ ρ_ hb_ => (r_move rfl rfl))) ?_
      obtain ⟨y61, hC62, H'⟩ := at_callqz H
      replace H := H'; clear H'
      refine ph_q (v := .int .i64 y61) rfl rfl rfl (hv_ok rfl rfl) (qy_call rfl (fun w_ ρ_ hb_ => r_call (vs := [.int .i64 a3, .int .i64 a2]) rfl rfl (ca52 _ _)) (fun w_ ρ_ hb_ => Cls.cq hC62 hb_)) ?_
      refine ph_q (v := .int .i64 y48) rfl rfl rfl (hv_ok rfl rfl) (qy_val rfl (fun w_ ρ_ hb_ => (r_move rfl rfl))) ?_
      refine ph_nil0 (fun w N hz B => ?_)
      replace H := H.step hz
      obtain ⟨p63, p64, he, h0, h1, hpa, H'⟩ := at_idx' H
      replace H := H'; clear H'
      refine stp (v := .pointer (some p64)) rfl rfl (r_indexAddr (v1 := Sl.v x59) (v2 := .int .i64 y61) rfl rfl rfl (ix' Try.underlying24 sz3 he h0 h1 hpa)) ?_
      clear he h0 h1 hpa
      obtain ⟨hc65, hf66, B', H'⟩ := at_stc B H
      replace B := B'; clear B'
      replace H := H'; clear H'
      refine stp0 rfl rfl (r_store (v1 := .pointer (some p64)) (v2 := .int .i64 y48) rfl rfl rfl (st1 rfl sz3 hc65 hf66)) ?_
      refine fin ?_
      exact n8 _ _ ⟨_, _, fr_self rfl, B, H⟩
  ·
    rintro _ w ⟨g, N, rfl, B, H⟩
    refine c_seq (fun Q69 n67 o68 => ?_)
    refine c_seq (fun Q72 n70 o71 => ?_)
    refine c_region ?_
    refine stp (v := .pointer a0) rfl rfl (r_move rfl rfl) ?_
    obtain ⟨p73, hp74, H'⟩ := at_nn H
    replace H := H'; clear H'
    refine stp (v := .pointer (some p73)) rfl rfl (r_nn rfl (congrArg Value.pointer hp74)) ?_
    refine stp (v := .pointer (some (p73.add 0))) rfl rfl (r_fieldAddr (v1 := .pointer (some p73)) rfl rfl (fld26_0 _ _)) ?_
    obtain ⟨x75, hx76, H'⟩ := at_ldc H
    replace H := H'; clear H'
    refine stp (v := Sl.v x75) rfl rfl (r_load (v1 := .pointer (some (p73.add 0))) rfl rfl (ld1 Try.underlying23 rfl (hx76 _ (Below.refl _ _)))) ?_
    refine stp (v := .int .i64 y7) rfl rfl (r_move rfl rfl) ?_
    obtain ⟨p77, p78, he, h0, h1, hpa, H'⟩ := at_idx' H
    replace H := H'; clear H'
    refine stp (v := .pointer (some p78)) rfl rfl (r_indexAddr (v1 := Sl.v x75) (v2 := .int .i64 y7) rfl rfl rfl (ix' Try.underlying23 sz70 he h0 h1 hpa)) ?_
    clear he h0 h1 hpa
    obtain ⟨x79_0, hx80, H'⟩ := at_ldc H
    replace H := H'; clear H'
    obtain ⟨x79_1, hx81, H'⟩ := at_ldc H
    replace H := H'; clear H'
    obtain ⟨x79_2, hx82, H'⟩ := at_ldc H
    replace H := H'; clear H'
    refine stp (v := .agg #[.int .i64 x79_0, .string x79_1, Sl.v x79_2]) rfl rfl (r_load (v1 := .pointer (some p78)) rfl rfl (ldn (cs := [.int .i64 x79_0, .string x79_1, Sl.v x79_2]) Try.underlying70 rfl sz70 (cells_start (cells_cons (m := 0) (hx80 _ (Below.refl _ _)) (cells_cons (m := 1) (hx81 _ (Below.refl _ _)) (cells_cons (m := 2) (hx82 _ (Below.refl _ _)) cells_nil)))))) ?_
    obtain ⟨w83, N, g84, hw, hg, B, H⟩ := B.new H 70 #[.int .i64 0, .string (⟨#[]⟩ : ByteArray), Sl.v Sl.nil]
    refine stp (v := .pointer (some ⟨g84, 0, none⟩)) (w' := w83) rfl rfl (r_alloc rfl (alloc_run (al70 _) hw hg)) ?_
    clear hw hg
    obtain ⟨w2, hr, B, H⟩ := B.stn H (i := 0) (T := 70) (cs' := #[.int .i64 x79_0, .string x79_1, Sl.v x79_2]) (ad := ⟨g84, 0, none⟩) rfl rfl rfl rfl sz70
    refine stp0 rfl rfl (r_store (v1 := .pointer (some ⟨g84, 0, none⟩)) (v2 := .agg #[.int .i64 x79_0, .string x79_1, Sl.v x79_2]) rfl rfl rfl hr) ?_
    replace B : Bx _ _ [⟨g84, 70, #[.int .i64 x79_0, .string x79_1, Sl.v x79_2]⟩] := B
    clear hr
    refine fin ?_
    refine n70 _ _ ?_
    refine c_seqj (fun a w => ∃ (j2_78 : Bool) (g : Nat → Value) (N : NP), a = A 87 (updl g [(0, .pointer a0), (1, .int .i64 y7), (78, .bool j2_78)]) ∧ Bx w N [⟨g84, 70, #[.int .i64 x79_0, .string x79_1, Sl.v x79_2]⟩] ∧ Aft w N (f26_impl_Cow_put.J2 R a0 y7 j2_78)) (fun Q87 n85 o86 => ?_) ?_
    ·
      refine c_region ?_
      refine stp (v := .pointer (some ⟨g84, 1, none⟩)) rfl rfl (r_fieldAddr (v1 := .pointer (some ⟨g84, 0, none⟩)) rfl rfl (fld70_1 _ _)) ?_
      refine stp (v := .string x79_1) rfl rfl (r_load (v1 := .pointer (some ⟨g84, 1, none⟩)) rfl rfl (ld1 Try.underlying9 rfl (bx1 (B.get 0 rfl) rfl rfl))) ?_
      refine stp (v := .bool (x79_1.toList == (⟨#[]⟩ : ByteArray).toList)) rfl rfl (r_seql (s := x79_1) (t := (⟨#[]⟩ : ByteArray)) rfl rfl rfl) ?_
      refine stp (v := .bool (x79_1.toList == (⟨#[]⟩ : ByteArray).toList)) rfl rfl (r_move rfl rfl) ?_
      rcases Bool.eq_false_or_eq_true (x79_1.toList == (⟨#[]⟩ : ByteArray).toList) with hb88 | hb88
      · replace H := at_itet hb88 H
        refine stp (v := .int .i64 a2) (wn rfl rfl rfl rfl (congrArg Value.bool hb88)) rfl (r_move rfl rfl) ?_
        refine stp (v := .bool (a2 == 1)) (wn rfl rfl rfl rfl (congrArg Value.bool hb88)) rfl (r_eql (a := a2) (b := 1) rfl rfl rfl) ?_
        refine stp (v := .bool (a2 == 1)) (wn rfl rfl rfl rfl (congrArg Value.bool hb88)) rfl (r_move rfl rfl) ?_
        rcases Bool.eq_false_or_eq_true (a2 == 1) with hb89 | hb89
        · replace H := at_itet hb89 H
          refine skp (un rfl rfl rfl rfl (congrArg Value.bool hb89) nofun) rfl ?_
          refine skp (un rfl rfl rfl rfl (congrArg Value.bool hb89) nofun) rfl ?_
          refine skp (un rfl rfl rfl rfl (congrArg Value.bool hb89) nofun) rfl ?_
          refine skp (un rfl rfl rfl rfl (congrArg Value.bool hb89) nofun) rfl ?_
          refine stp (v := .bool true) (wn rfl rfl rfl rfl (congrArg Value.bool hb88)) rfl (r_pickt rfl (congrArg Value.bool hb89) rfl) ?_
          refine stp (v := .bool true) rfl rfl (r_pickt rfl (congrArg Value.bool hb88) rfl) ?_
          refine fin ?_
          exact n85 _ _ ⟨true, _, _, fr_self rfl, B, H⟩
        · replace H := at_itef hb89 H
          refine stp (v := .pointer (some ⟨g84, 2, none⟩)) (wn rfl rfl rfl rfl (congrArg Value.bool hb89)) rfl (r_fieldAddr (v1 := .pointer (some ⟨g84, 0, none⟩)) rfl rfl (fld70_2 _ _)) ?_
          refine stp (v := Sl.v x79_2) (wn rfl rfl rfl rfl (congrArg Value.bool hb89)) rfl (r_load (v1 := .pointer (some ⟨g84, 2, none⟩)) rfl rfl (ld1 Try.underlying24 rfl (bx1 (B.get 0 rfl) rfl rfl))) ?_
          refine stpc (wn rfl rfl rfl rfl (congrArg Value.bool hb89)) rfl (r_call (vs := [Sl.v x79_2]) rfl rfl (ca54 _ _)) ?_
          refine at_call B H (fun y90 w B H => ?_)
          refine stp (v := .bool (decide (y90 < 0))) (wn rfl rfl rfl rfl (congrArg Value.bool hb89)) rfl (r_lss (a := y90) (b := 0) rfl rfl rfl) ?_
          refine stp (v := .bool (decide (y90 < 0))) (wn rfl rfl rfl rfl (congrArg Value.bool hb88)) rfl (r_pickf rfl (congrArg Value.bool hb89) rfl) ?_
          refine stp (v := .bool (decide (y90 < 0))) rfl rfl (r_pickt rfl (congrArg Value.bool hb88) rfl) ?_
          refine fin ?_
          exact n85 _ _ ⟨decide (y90 < 0), _, _, fr_self rfl, B, H⟩
      · replace H := at_itef hb88 H
        refine skp (un rfl rfl rfl rfl (congrArg Value.bool hb88) nofun) rfl ?_
        refine skp (un rfl rfl rfl rfl (congrArg Value.bool hb88) nofun) rfl ?_
        refine skp (un rfl rfl rfl rfl (congrArg Value.bool hb88) nofun) rfl ?_
        refine skp (un_undef rfl rfl rfl rfl rfl) rfl ?_
        refine skp (un_undef rfl rfl rfl rfl rfl) rfl ?_
        refine skp (un_undef rfl rfl rfl rfl rfl) rfl ?_
        refine skp (un_undef rfl rfl rfl rfl rfl) rfl ?_
        refine skp (un rfl rfl rfl rfl (congrArg Value.bool hb88) nofun) rfl ?_
        refine stp (v := .bool false) rfl rfl (r_pickf rfl (congrArg Value.bool hb88) rfl) ?_
        refine fin ?_
        exact n85 _ _ ⟨false, _, _, fr_self rfl, B, H⟩
    ·
      rintro _ w ⟨j2_78, g, N, rfl, B, H⟩
      refine c_cond (b := j2_78) rfl (fun hb91 => ?_) (fun hb91 => ?_)
      · replace H := at_itet hb91 H
        refine c_seq (fun Q94 n92 o93 => ?_)
        refine c_region ?_
        refine stp (v := .pointer a0) rfl rfl (r_move rfl rfl) ?_
        obtain ⟨p95, hp96, H'⟩ := at_nn H
        replace H := H'; clear H'
        refine stp (v := .pointer (some p95)) rfl rfl (r_nn rfl (congrArg Value.pointer hp96)) ?_
        refine stp (v := .pointer (some (p95.add 0))) rfl rfl (r_fieldAddr (v1 := .pointer (some p95)) rfl rfl (fld26_0 _ _)) ?_
        obtain ⟨x97, hx98, H'⟩ := at_ldc H
        replace H := H'; clear H'
        refine stp (v := Sl.v x97) rfl rfl (r_load (v1 := .pointer (some (p95.add 0))) rfl rfl (ld1 Try.underlying23 rfl (hx98 _ (Below.refl _ _)))) ?_
        refine stp (v := .int .i64 y7) rfl rfl (r_move rfl rfl) ?_
        refine stp (v := .agg #[.int .i64 0, .string (⟨#[]⟩ : ByteArray), Sl.v Sl.nil]) rfl rfl (r_build (qs := []) rfl rfl (site8  _)) ?_
        obtain ⟨p99, p100, he, h0, h1, hpa, H'⟩ := at_idx' H
        replace H := H'; clear H'
        refine stp (v := .pointer (some p100)) rfl rfl (r_indexAddr (v1 := Sl.v x97) (v2 := .int .i64 y7) rfl rfl rfl (ix' Try.underlying23 sz70 he h0 h1 hpa)) ?_
        clear he h0 h1 hpa
        obtain ⟨hc101, hf102, B', H'⟩ := at_stc B H
        replace B := B'; clear B'
        replace H := H'; clear H'
        obtain ⟨hc103, hf104, B', H'⟩ := at_stc B H
        replace B := B'; clear B'
        replace H := H'; clear H'
        obtain ⟨hc105, hf106, B', H'⟩ := at_stc B H
        replace B := B'; clear B'
        replace H := H'; clear H'
        refine stp0 rfl rfl (r_store (v1 := .pointer (some p100)) (v2 := .agg #[.int .i64 0, .string (⟨#[]⟩ : ByteArray), Sl.v Sl.nil]) rfl rfl rfl (stn (N := fun _ => False) sz70 (.cons rfl hc101 hf102 (.cons rfl hc103 hf104 (.cons rfl hc105 hf106 .nil))))) ?_
        refine fin ?_
        refine n92 _ _ ?_
        refine c_seq (fun Q109 n107 o108 => ?_)
        refine c_region ?_
        refine stp (v := .int .i64 (-1)) rfl rfl (r_assign rfl rfl) ?_
        refine fin ?_
        refine n107 _ _ ?_
        refine c_ret (o68 _ _ _ nofun ((done (vs := [.int .i64 (-1)]) (.tmp rfl .nil) rfl ⟨_, rfl, H.now⟩)))
      · replace H := at_itef hb91 H
        refine c_skip ?_
        refine n67 _ _ ?_
        refine c_seq (fun Q112 n110 o111 => ?_)
        refine c_region ?_
        refine stp (v := .int .i64 y7) rfl rfl (r_move rfl rfl) ?_
        refine stp (v := .int .i64 y7) rfl rfl (r_assign rfl rfl) ?_
        refine fin ?_
        refine n110 _ _ ?_
        refine c_ret ((done (vs := [.int .i64 y7]) (.tmp rfl .nil) rfl ⟨_, rfl, H.now⟩))
def f27_spec_l1In.J1 (R : Value → World → Prop) (j1_6 : Bool) : Tm :=
  T.ret R (.bool j1_6)
def f27_spec_l1In.T (R : Value → World → Prop) (a0 : Int) (a1 : Int) (a2 : Int) : Tm :=
  T.ite (decide (a1 ≤ a0)) (f27_spec_l1In.J1 R  (decide (a0 ≤ a2))) (f27_spec_l1In.J1 R  false)
set_option maxHeartbeats 4000000 in
set_option maxRecDepth 100000 in
theorem f27_spec_l1In.ok (R : Value → World → Prop) (a0 : Int) (a1 : Int) (a2 : Int) (w : World) (h : Aft w (fun _ => False) (f27_spec_l1In.T R a0 a1 a2)) :
    Calls Try.prog 27 (List.toArray [.int .i64 a0, .int .i64 a1, .int .i64 a2]) w fun e w' => ∃ v, e = .returned v ∧ R v w' := by
  refine enter 15 Try.func27 rfl rfl rfl ?_
  have B := Bx.nil w
  have H := h
  clear h
  refine c_seq (fun Q3 n1 o2 => ?_)
  refine c_region ?_
  refine stp (v := .bool false) rfl rfl (r_assign rfl rfl) ?_
  refine fin ?_
  refine n1 _ _ ?_
  refine c_seqj (fun a w => ∃ (j1_6 : Bool) (g : Nat → Value) (N : NP), a = A 15 (updl g [(6, .bool j1_6)]) ∧ Bx w N [] ∧ Aft w N (f27_spec_l1In.J1 R  j1_6)) (fun Q6 n4 o5 => ?_) ?_
  ·
    refine c_region ?_
    refine stp (v := .int .i64 a0) rfl rfl (r_move rfl rfl) ?_
    refine stp (v := .int .i64 a1) rfl rfl (r_move rfl rfl) ?_
    refine stp (v := .bool (decide (a1 ≤ a0))) rfl rfl (r_geq (a := a0) (b := a1) rfl rfl rfl) ?_
    refine stp (v := .bool (decide (a1 ≤ a0))) rfl rfl (r_move rfl rfl) ?_
    rcases Bool.eq_false_or_eq_true (decide (a1 ≤ a0)) with hb7 | hb7
    · replace H := at_itet hb7 H
      refine stp (v := .int .i64 a0) (wn rfl rfl rfl rfl (congrArg Value.bool hb7)) rfl (r_move rfl rfl) ?_
      refine stp (v := .int .i64 a2) (wn rfl rfl rfl rfl (congrArg Value.bool hb7)) rfl (r_move rfl rfl) ?_
      refine stp (v := .bool (decide (a0 ≤ a2))) (wn rfl rfl rfl rfl (congrArg Value.bool hb7)) rfl (r_leq (a := a0) (b := a2) rfl rfl rfl) ?_
      refine stp (v := .bool (decide (a0 ≤ a2))) rfl rfl (r_pickt rfl (congrArg Value.bool hb7) rfl) ?_
      refine stp (v := .bool (decide (a0 ≤ a2))) rfl rfl (r_assign rfl rfl) ?_
      refine fin ?_
      exact n4 _ _ ⟨decide (a0 ≤ a2), _, _, fr_self rfl, B, H⟩
    · replace H := at_itef hb7 H
      refine skp (un rfl rfl rfl rfl (congrArg Value.bool hb7) nofun) rfl ?_
      refine skp (un rfl rfl rfl rfl (congrArg Value.bool hb7) nofun) rfl ?_
      refine skp (un rfl rfl rfl rfl (congrArg Value.bool hb7) nofun) rfl ?_
      refine stp (v := .bool false) rfl rfl (r_pickf rfl (congrArg Value.bool hb7) rfl) ?_
      refine stp (v := .bool false) rfl rfl (r_assign rfl rfl) ?_
      refine fin ?_
      exact n4 _ _ ⟨false, _, _, fr_self rfl, B, H⟩
  ·
    rintro _ w ⟨j1_6, g, N, rfl, B, H⟩
    refine c_ret ((done (vs := [.bool j1_6]) (.tmp rfl .nil) rfl ⟨_, rfl, H.now⟩))
def f28_spec_l14Places.T (R : Value → World → Prop) (a0_0 : Sl) (a0_1 : Sl) (a0_2 : Int) : Tm :=
  T.call Try.prog 55 [.int .i64 (IntKind.i64.wrap (a0_2 + 1))] (Value.int .i64) fun (y9 : Int) => T.ret R (.int .i64 (IntKind.i64.wrap (y9.tdiv 4)))
set_option maxHeartbeats 4000000 in
set_option maxRecDepth 100000 in
theorem f28_spec_l14Places.ok (R : Value → World → Prop) (a0_0 : Sl) (a0_1 : Sl) (a0_2 : Int) (w : World) (h : Aft w (fun _ => False) (f28_spec_l14Places.T R a0_0 a0_1 a0_2)) :
    Calls Try.prog 28 (List.toArray [.agg #[Sl.v a0_0, Sl.v a0_1, .int .i64 a0_2]]) w fun e w' => ∃ v, e = .returned v ∧ R v w' := by
  refine enter 8 Try.func28 rfl rfl rfl ?_
  have B := Bx.nil w
  have H := h
  clear h
  refine c_seq (fun Q3 n1 o2 => ?_)
  refine c_region ?_
  obtain ⟨w4, N, g5, hw, hg, B, H⟩ := B.new H 26 #[Sl.v a0_0, Sl.v a0_1, .int .i64 a0_2]
  refine stp (v := .pointer (some ⟨g5, 0, none⟩)) (w' := w4) rfl rfl (r_box (v1 := .agg #[Sl.v a0_0, Sl.v a0_1, .int .i64 a0_2]) rfl rfl (box_run rfl hw hg)) ?_
  clear hw hg
  refine stp (v := .int .i64 0) rfl rfl (r_assign rfl rfl) ?_
  refine fin ?_
  refine n1 _ _ ?_
  refine c_seq (fun Q8 n6 o7 => ?_)
  refine c_region ?_
  refine stp (v := .pointer (some ⟨g5, 2, none⟩)) rfl rfl (r_fieldAddr (v1 := .pointer (some ⟨g5, 0, none⟩)) rfl rfl (fld26_2 _ _)) ?_
  refine stp (v := .int .i64 a0_2) rfl rfl (r_load (v1 := .pointer (some ⟨g5, 2, none⟩)) rfl rfl (ld1 Try.underlying3 rfl (bx1 (B.get 0 rfl) rfl rfl))) ?_
  refine stp (v := .int .i64 (IntKind.i64.wrap (a0_2 + 1))) rfl rfl (r_add (a := a0_2) (b := 1) rfl rfl rfl) ?_
  refine stpc rfl rfl (r_call (vs := [.int .i64 (IntKind.i64.wrap (a0_2 + 1))]) rfl rfl (ca55 _ _)) ?_
  refine at_call B H (fun y9 w B H => ?_)
  refine stp (v := .int .i64 (IntKind.i64.wrap (y9.tdiv 4))) rfl rfl (r_quo (a := y9) (b := 4) rfl rfl rfl (by decide)) ?_
  refine stp (v := .int .i64 (IntKind.i64.wrap (y9.tdiv 4))) rfl rfl (r_assign rfl rfl) ?_
  refine fin ?_
  refine n6 _ _ ?_
  refine c_ret ((done (vs := [.int .i64 (IntKind.i64.wrap (y9.tdiv 4))]) (.tmp rfl .nil) rfl ⟨_, rfl, H.now⟩))
def f29_spec_l14Leaf.J2 (R : Value → World → Prop) (a0_0 : Sl) (next19 : (Int) → (Int) → (Int) → Tm) (s1_1 : Int) (s1_2 : Int) (s1_7 : Int) (j2_16 : Bool) : Tm :=
  T.ite j2_16 (T.call Try.prog 55 [.int .i64 s1_7] (Value.int .i64) fun (y38 : Int) => T.idx a0_0 s1_1 3 fun (p43 : Addr) => T.ldc (p43.add 2) Sl.v fun (x44 : Sl) => T.ass ((IntKind.i64.wrap (y38.tdiv 4)) ≠ 0) (T.idx x44 (IntKind.i64.wrap (s1_2.tdiv (IntKind.i64.wrap (y38.tdiv 4)))) 1 fun (p47 : Addr) => T.ldc p47 (Value.int .i64) fun (x48 : Int) => T.ass ((IntKind.i64.wrap (y38.tdiv 4)) ≠ 0) (next19 x48 (s1_2.tmod (IntKind.i64.wrap (y38.tdiv 4))) (IntKind.i64.wrap (s1_7 - 1))))) (T.ite (decide (s1_1 < 0)) (T.ret R (.string (⟨#[]⟩ : ByteArray))) (T.idx a0_0 s1_1 3 fun (p64 : Addr) => T.ldc (p64.add 1) Value.string fun (x65 : ByteArray) => T.ret R (.string x65)))
def f29_spec_l14Leaf.L1 (R : Value → World → Prop) (a0_0 : Sl) (s1_1 : Int) (s1_2 : Int) (s1_7 : Int) (next19 : (Int) → (Int) → (Int) → Tm) : Tm :=
  T.ite (decide (0 ≤ s1_1)) (f29_spec_l14Leaf.J2 R a0_0 next19 s1_1 s1_2 s1_7 (decide (1 < s1_7))) (f29_spec_l14Leaf.J2 R a0_0 next19 s1_1 s1_2 s1_7 false)
def f29_spec_l14Leaf.T (R : Value → World → Prop) (a0_0 : Sl) (a0_1 : Sl) (a0_2 : Int) (a1 : Int) (a2 : Int) : Tm :=
  T.loop (fun (s : Int × Int × Int) next => f29_spec_l14Leaf.L1 R a0_0 s.1 s.2.1 s.2.2 (fun (z0 : Int) (z1 : Int) (z2 : Int) => next (z0, z1, z2))) (a1, a2, a0_2)
set_option maxHeartbeats 4000000 in
set_option maxRecDepth 100000 in
theorem f29_spec_l14Leaf.ok (R : Value → World → Prop) (a0_0 : Sl) (a0_1 : Sl) (a0_2 : Int) (a1 : Int) (a2 : Int) (w : World) (h : Aft w (fun _ => False) (f29_spec_l14Leaf.T R a0_0 a0_1 a0_2 a1 a2)) :
    Calls Try.prog 29 (List.toArray [.agg #[Sl.v a0_0, Sl.v a0_1, .int .i64 a0_2], .int .i64 a1, .int .i64 a2]) w fun e w' => ∃ v, e = .returned v ∧ R v w' := by
  refine enter 44 Try.func29 rfl rfl rfl ?_
  have B := Bx.nil w
  have H := h
  clear h
  refine c_seq (fun Q3 n1 o2 => ?_)
  refine c_region ?_
  obtain ⟨w4, N, g5, hw, hg, B, H⟩ := B.new H 26 #[Sl.v a0_0, Sl.v a0_1, .int .i64 a0_2]
  refine stp (v := .pointer (some ⟨g5, 0, none⟩)) (w' := w4) rfl rfl (r_box (v1 := .agg #[Sl.v a0_0, Sl.v a0_1, .int .i64 a0_2]) rfl rfl (box_run rfl hw hg)) ?_
  clear hw hg
  refine stp (v := .string (⟨#[]⟩ : ByteArray)) rfl rfl (r_assign rfl rfl) ?_
  refine fin ?_
  refine n1 _ _ ?_
  refine c_seq (fun Q8 n6 o7 => ?_)
  refine c_seq (fun Q11 n9 o10 => ?_)
  refine c_region ?_
  refine stp (v := .pointer (some ⟨g5, 2, none⟩)) rfl rfl (r_fieldAddr (v1 := .pointer (some ⟨g5, 0, none⟩)) rfl rfl (fld26_2 _ _)) ?_
  refine stp (v := .int .i64 a0_2) rfl rfl (r_load (v1 := .pointer (some ⟨g5, 2, none⟩)) rfl rfl (ld1 Try.underlying3 rfl (bx1 (B.get 0 rfl) rfl rfl))) ?_
  refine stp (v := .int .i64 a0_2) rfl rfl (r_assign rfl rfl) ?_
  refine fin ?_
  refine n9 _ _ ?_
  refine c_block (fun Q15 n12 x14 o13 => ?_)
  refine c_loop (σ := Int × Int × Int) (s0 := (a1, a2, a0_2)) (fun s => [(1, .int .i64 s.1), (2, .int .i64 s.2.1), (3, .pointer (some ⟨g5, 0, none⟩)), (7, .int .i64 s.2.2)]) (fun s => [⟨g5, 26, #[Sl.v a0_0, Sl.v a0_1, .int .i64 a0_2]⟩]) B H rfl ?_
  rintro Q18 next19 ⟨s1_1, s1_2, s1_7⟩ g w N nx16 o17 B H
  refine c_seq (fun Q22 n20 o21 => ?_)
  refine c_seqj (fun a w => ∃ (j2_16 : Bool) (g : Nat → Value) (N : NP), a = A 44 (updl g [(1, .int .i64 s1_1), (2, .int .i64 s1_2), (3, .pointer (some ⟨g5, 0, none⟩)), (7, .int .i64 s1_7), (16, .bool j2_16)]) ∧ Bx w N [⟨g5, 26, #[Sl.v a0_0, Sl.v a0_1, .int .i64 a0_2]⟩] ∧ Aft w N (f29_spec_l14Leaf.J2 R a0_0 (fun (z0 : Int) (z1 : Int) (z2 : Int) => next19 (z0, z1, z2)) s1_1 s1_2 s1_7 j2_16)) (fun Q25 n23 o24 => ?_) ?_
  ·
    refine c_region ?_
    refine stp (v := .int .i64 s1_1) rfl rfl (r_move rfl rfl) ?_
    refine stp (v := .bool (decide (0 ≤ s1_1))) rfl rfl (r_geq (a := s1_1) (b := 0) rfl rfl rfl) ?_
    refine stp (v := .bool (decide (0 ≤ s1_1))) rfl rfl (r_move rfl rfl) ?_
    rcases Bool.eq_false_or_eq_true (decide (0 ≤ s1_1)) with hb26 | hb26
    · replace H := at_itet hb26 H
      refine stp (v := .int .i64 s1_7) (wn rfl rfl rfl rfl (congrArg Value.bool hb26)) rfl (r_move rfl rfl) ?_
      refine stp (v := .bool (decide (1 < s1_7))) (wn rfl rfl rfl rfl (congrArg Value.bool hb26)) rfl (r_gtr (a := s1_7) (b := 1) rfl rfl rfl) ?_
      refine stp (v := .bool (decide (1 < s1_7))) rfl rfl (r_pickt rfl (congrArg Value.bool hb26) rfl) ?_
      refine fin ?_
      exact n23 _ _ ⟨decide (1 < s1_7), _, _, fr_self rfl, B, H⟩
    · replace H := at_itef hb26 H
      refine skp (un rfl rfl rfl rfl (congrArg Value.bool hb26) nofun) rfl ?_
      refine skp (un rfl rfl rfl rfl (congrArg Value.bool hb26) nofun) rfl ?_
      refine stp (v := .bool false) rfl rfl (r_pickf rfl (congrArg Value.bool hb26) rfl) ?_
      refine fin ?_
      exact n23 _ _ ⟨false, _, _, fr_self rfl, B, H⟩
  ·
    rintro _ w ⟨j2_16, g, N, rfl, B, H⟩
    refine c_cond (b := j2_16) rfl (fun hb27 => ?_) (fun hb27 => ?_)
    · replace H := at_itet hb27 H
      refine c_skip ?_
      refine n20 _ _ ?_
      refine c_seq (fun Q30 n28 o29 => ?_)
      refine c_block (fun Q34 n31 x33 o32 => ?_)
      refine c_seq (fun Q37 n35 o36 => ?_)
      refine c_region ?_
      refine stp (v := .int .i64 s1_7) rfl rfl (r_move rfl rfl) ?_
      refine stpc rfl rfl (r_call (vs := [.int .i64 s1_7]) rfl rfl (ca55 _ _)) ?_
      refine at_call B H (fun y38 w B H => ?_)
      refine stp (v := .int .i64 (IntKind.i64.wrap (y38.tdiv 4))) rfl rfl (r_quo (a := y38) (b := 4) rfl rfl rfl (by decide)) ?_
      refine stp (v := .int .i64 (IntKind.i64.wrap (y38.tdiv 4))) rfl rfl (r_assign rfl rfl) ?_
      refine fin ?_
      refine n35 _ _ ?_
      refine c_seq (fun Q41 n39 o40 => ?_)
      refine c_quiet rfl (by kernel_rfl) ?_
      refine qstp (v := .pointer (some ⟨g5, 0, none⟩)) rfl rfl (fun w_ hb_ => (r_fieldAddr (v1 := .pointer (some ⟨g5, 0, none⟩)) rfl rfl (fld26_0 _ _))) ?_
      refine qstp (v := Sl.v a0_0) rfl rfl (fun w_ hb_ => (r_load (v1 := .pointer (some ⟨g5, 0, none⟩)) rfl rfl (ld1 Try.underlying23 rfl (bx1 ((B.quiet (Qt.of_below hb_)).get 0 rfl) rfl rfl)))) ?_
      refine qstp (v := .int .i64 s1_1) rfl rfl (fun w_ hb_ => (r_move rfl rfl)) ?_
      obtain ⟨p42, p43, he, h0, h1, hpa, H'⟩ := at_idx' H
      replace H := H'; clear H'
      refine qstp (v := .pointer (some p43)) rfl rfl (fun w_ hb_ => (r_indexAddr (v1 := Sl.v a0_0) (v2 := .int .i64 s1_1) rfl rfl rfl (ix' Try.underlying23 sz70 he h0 h1 hpa))) ?_
      clear he h0 h1 hpa
      refine qstp (v := .pointer (some (p43.add 2))) rfl rfl (fun w_ hb_ => (r_fieldAddr (v1 := .pointer (some p43)) rfl rfl (fld70_2 _ _))) ?_
      obtain ⟨x44, hx45, H'⟩ := at_ldc H
      replace H := H'; clear H'
      refine qstp (v := Sl.v x44) rfl rfl (fun w_ hb_ => (r_load (v1 := .pointer (some (p43.add 2))) rfl rfl (ld1 Try.underlying24 rfl (hx45 _ hb_)))) ?_
      refine qstp (v := .int .i64 s1_2) rfl rfl (fun w_ hb_ => (r_move rfl rfl)) ?_
      refine qstp (v := .int .i64 (IntKind.i64.wrap (y38.tdiv 4))) rfl rfl (fun w_ hb_ => (r_move rfl rfl)) ?_
      obtain ⟨ha, H'⟩ := at_ass H
      replace H := H'; clear H'
      refine qstp (v := .int .i64 (IntKind.i64.wrap (s1_2.tdiv (IntKind.i64.wrap (y38.tdiv 4))))) rfl rfl (fun w_ hb_ => (r_quo (a := s1_2) (b := IntKind.i64.wrap (y38.tdiv 4)) rfl rfl rfl ha)) ?_
      clear ha
      obtain ⟨p46, p47, he, h0, h1, hpa, H'⟩ := at_idx' H
      replace H := H'; clear H'
      refine qstp (v := .pointer (some p47)) rfl rfl (fun w_ hb_ => (r_indexAddr (v1 := Sl.v x44) (v2 := .int .i64 (IntKind.i64.wrap (s1_2.tdiv (IntKind.i64.wrap (y38.tdiv 4))))) rfl rfl rfl (ix' Try.underlying24 sz3 he h0 h1 hpa))) ?_
      clear he h0 h1 hpa
      obtain ⟨x48, hx49, H'⟩ := at_ldc H
      replace H := H'; clear H'
      refine qstp (v := .int .i64 x48) rfl rfl (fun w_ hb_ => (r_load (v1 := .pointer (some p47)) rfl rfl (ld1 Try.underlying3 rfl (hx49 _ hb_)))) ?_
      refine qstp (v := .int .i64 x48) rfl rfl (fun w_ hb_ => (r_assign rfl rfl)) ?_
      refine qfin (fun w hb => ?_)
      replace B := B.quiet (Qt.of_below hb)
      replace H := H.step (Nz.of_below hb)
      refine n39 _ _ ?_
      refine c_region ?_
      refine stp (v := .int .i64 s1_2) rfl rfl (r_move rfl rfl) ?_
      refine stp (v := .int .i64 (IntKind.i64.wrap (y38.tdiv 4))) rfl rfl (r_move rfl rfl) ?_
      obtain ⟨ha, H'⟩ := at_ass H
      replace H := H'; clear H'
      refine stp (v := .int .i64 (s1_2.tmod (IntKind.i64.wrap (y38.tdiv 4)))) rfl rfl (r_rem (a := s1_2) (b := IntKind.i64.wrap (y38.tdiv 4)) rfl rfl rfl ha) ?_
      clear ha
      refine stp (v := .int .i64 (s1_2.tmod (IntKind.i64.wrap (y38.tdiv 4)))) rfl rfl (r_assign rfl rfl) ?_
      refine fin ?_
      refine n31 _ _ ?_
      refine n28 _ _ ?_
      refine c_region ?_
      refine stp (v := .int .i64 s1_7) rfl rfl (r_move rfl rfl) ?_
      refine stp (v := .int .i64 (IntKind.i64.wrap (s1_7 - 1))) rfl rfl (r_sub (a := s1_7) (b := 1) rfl rfl rfl) ?_
      refine stp (v := .int .i64 (IntKind.i64.wrap (s1_7 - 1))) rfl rfl (r_assign rfl rfl) ?_
      refine fin ?_
      exact nx16 ⟨x48, s1_2.tmod (IntKind.i64.wrap (y38.tdiv 4)), IntKind.i64.wrap (s1_7 - 1)⟩ _ _ _ B H rfl
    · replace H := at_itef hb27 H
      refine c_exit (o21 _ _ _ nofun (o17 _ _ _ nofun (x14 _ _ ?_)))
      refine n6 _ _ ?_
      refine c_seq (fun Q52 n50 o51 => ?_)
      refine c_seq (fun Q55 n53 o54 => ?_)
      refine c_region ?_
      refine stp (v := .int .i64 s1_1) rfl rfl (r_move rfl rfl) ?_
      refine stp (v := .bool (decide (s1_1 < 0))) rfl rfl (r_lss (a := s1_1) (b := 0) rfl rfl rfl) ?_
      refine fin ?_
      refine n53 _ _ ?_
      refine c_cond (b := decide (s1_1 < 0)) rfl (fun hb56 => ?_) (fun hb56 => ?_)
      · replace H := at_itet hb56 H
        refine c_seq (fun Q59 n57 o58 => ?_)
        refine c_region ?_
        refine stp (v := .string (⟨#[]⟩ : ByteArray)) rfl rfl (r_assign rfl rfl) ?_
        refine fin ?_
        refine n57 _ _ ?_
        refine c_ret (o51 _ _ _ nofun ((done (vs := [.string (⟨#[]⟩ : ByteArray)]) (.tmp rfl .nil) rfl ⟨_, rfl, H.now⟩)))
      · replace H := at_itef hb56 H
        refine c_skip ?_
        refine n50 _ _ ?_
        refine c_seq (fun Q62 n60 o61 => ?_)
        refine c_region ?_
        refine stp (v := .pointer (some ⟨g5, 0, none⟩)) rfl rfl (r_fieldAddr (v1 := .pointer (some ⟨g5, 0, none⟩)) rfl rfl (fld26_0 _ _)) ?_
        refine stp (v := Sl.v a0_0) rfl rfl (r_load (v1 := .pointer (some ⟨g5, 0, none⟩)) rfl rfl (ld1 Try.underlying23 rfl (bx1 (B.get 0 rfl) rfl rfl))) ?_
        refine stp (v := .int .i64 s1_1) rfl rfl (r_move rfl rfl) ?_
        obtain ⟨p63, p64, he, h0, h1, hpa, H'⟩ := at_idx' H
        replace H := H'; clear H'
        refine stp (v := .pointer (some p64)) rfl rfl (r_indexAddr (v1 := Sl.v a0_0) (v2 := .int .i64 s1_1) rfl rfl rfl (ix' Try.underlying23 sz70 he h0 h1 hpa)) ?_
        clear he h0 h1 hpa
        refine stp (v := .pointer (some (p64.add 1))) rfl rfl (r_fieldAddr (v1 := .pointer (some p64)) rfl rfl (fld70_1 _ _)) ?_
        obtain ⟨x65, hx66, H'⟩ := at_ldc H
        replace H := H'; clear H'
        refine stp (v := .string x65) rfl rfl (r_load (v1 := .pointer (some (p64.add 1))) rfl rfl (ld1 Try.underlying9 rfl (hx66 _ (Below.refl _ _)))) ?_
        refine stp (v := .string x65) rfl rfl (r_assign rfl rfl) ?_
        refine fin ?_
        refine n60 _ _ ?_
        refine c_ret ((done (vs := [.string x65]) (.tmp rfl .nil) rfl ⟨_, rfl, H.now⟩))
def f30_spec_l14Own.L1 (R : Value → World → Prop) (a0_0 : Sl) (a0_1 : Sl) (a0_2 : Int) (s1_3 : Sl) (s1_9 : Int) (next24 : (Sl) → (Int) → Tm) : Tm :=
  T.ite (decide (s1_9 < (a0_0.n : Int))) (T.idx a0_0 s1_9 3 fun (p43 : Addr) => T.ldc (p43.add 0) (Value.int .i64) fun (x44_0 : Int) => T.ldc (p43.add 1) Value.string fun (x44_1 : ByteArray) => T.ldc (p43.add 2) Sl.v fun (x44_2 : Sl) => T.new (.cells #[] 3) fun (g54 : Nat) => T.run Try.prog (Builtin.append_ #[24, 24] 24 #[Sl.v (⟨some ⟨g54, 0, none⟩, 0, 0⟩ : Sl), Sl.v x44_2]) Sl.v fun (y55 : Sl) => T.new (.cells #[.int .i64 x44_0, .string x44_1, Sl.v y55] 70) fun (g57 : Nat) => T.run Try.prog (Builtin.append_ #[23, 23] 23 #[Sl.v s1_3, Sl.v (⟨some ⟨g57, 0, none⟩, 1, 1⟩ : Sl)]) Sl.v fun (y58 : Sl) => next24 y58 (IntKind.i64.wrap (s1_9 + 1))) (T.new (.cells #[] 3) fun (g66 : Nat) => T.run Try.prog (Builtin.append_ #[24, 24] 24 #[Sl.v (⟨some ⟨g66, 0, none⟩, 0, 0⟩ : Sl), Sl.v a0_1]) Sl.v fun (y67 : Sl) => T.ret R (.agg #[Sl.v s1_3, Sl.v y67, .int .i64 a0_2]))
def f30_spec_l14Own.T (R : Value → World → Prop) (a0_0 : Sl) (a0_1 : Sl) (a0_2 : Int) : Tm :=
  T.loop (fun (s : Sl × Int) next => f30_spec_l14Own.L1 R a0_0 a0_1 a0_2 s.1 s.2 (fun (z0 : Sl) (z1 : Int) => next (z0, z1))) (Sl.nil, 0)
set_option maxHeartbeats 4000000 in
set_option maxRecDepth 100000 in
theorem f30_spec_l14Own.ok (R : Value → World → Prop) (a0_0 : Sl) (a0_1 : Sl) (a0_2 : Int) (w : World) (h : Aft w (fun _ => False) (f30_spec_l14Own.T R a0_0 a0_1 a0_2)) :
    Calls Try.prog 30 (List.toArray [.agg #[Sl.v a0_0, Sl.v a0_1, .int .i64 a0_2]]) w fun e w' => ∃ v, e = .returned v ∧ R v w' := by
  refine enter 31 Try.func30 rfl rfl rfl ?_
  have B := Bx.nil w
  have H := h
  clear h
  refine c_seq (fun Q3 n1 o2 => ?_)
  refine c_region ?_
  obtain ⟨w4, N, g5, hw, hg, B, H⟩ := B.new H 26 #[Sl.v a0_0, Sl.v a0_1, .int .i64 a0_2]
  refine stp (v := .pointer (some ⟨g5, 0, none⟩)) (w' := w4) rfl rfl (r_box (v1 := .agg #[Sl.v a0_0, Sl.v a0_1, .int .i64 a0_2]) rfl rfl (box_run rfl hw hg)) ?_
  clear hw hg
  obtain ⟨w6, N, g7, hw, hg, B, H⟩ := B.new H 26 #[Sl.v Sl.nil, Sl.v Sl.nil, .int .i64 0]
  refine stp (v := .pointer (some ⟨g7, 0, none⟩)) (w' := w6) rfl rfl (r_alloc rfl (alloc_run (al26 _) hw hg)) ?_
  clear hw hg
  refine fin ?_
  refine n1 _ _ ?_
  refine c_seq (fun Q10 n8 o9 => ?_)
  refine c_region ?_
  refine stp (v := Sl.v Sl.nil) rfl rfl (r_assign rfl rfl) ?_
  refine fin ?_
  refine n8 _ _ ?_
  refine c_seq (fun Q13 n11 o12 => ?_)
  refine c_seq (fun Q16 n14 o15 => ?_)
  refine c_region ?_
  refine stp (v := .pointer (some ⟨g5, 0, none⟩)) rfl rfl (r_fieldAddr (v1 := .pointer (some ⟨g5, 0, none⟩)) rfl rfl (fld26_0 _ _)) ?_
  refine stp (v := Sl.v a0_0) rfl rfl (r_load (v1 := .pointer (some ⟨g5, 0, none⟩)) rfl rfl (ld1 Try.underlying23 rfl (bx1 (B.get 1 rfl) rfl rfl))) ?_
  refine stp (v := .int .i64 (a0_0.n : Int)) rfl rfl (r_builtin (vs := [Sl.v a0_0]) rfl rfl (fun _ => lenl Try.underlying23)) ?_
  refine stp (v := .int .i64 0) rfl rfl (r_move rfl rfl) ?_
  refine fin ?_
  refine n14 _ _ ?_
  refine c_block (fun Q20 n17 x19 o18 => ?_)
  refine c_loop (σ := Sl × Int) (s0 := (Sl.nil, 0)) (fun s => [(1, .pointer (some ⟨g5, 0, none⟩)), (2, .pointer (some ⟨g7, 0, none⟩)), (3, Sl.v s.1), (7, Sl.v a0_0), (8, .int .i64 (a0_0.n : Int)), (9, .int .i64 s.2)]) (fun s => [⟨g7, 26, #[Sl.v Sl.nil, Sl.v Sl.nil, .int .i64 0]⟩, ⟨g5, 26, #[Sl.v a0_0, Sl.v a0_1, .int .i64 a0_2]⟩]) B H rfl ?_
  rintro Q23 next24 ⟨s1_3, s1_9⟩ g w N nx21 o22 B H
  refine c_seq (fun Q27 n25 o26 => ?_)
  refine c_region ?_
  refine stp (v := .bool (decide (s1_9 < (a0_0.n : Int)))) rfl rfl (r_lss (a := s1_9) (b := (a0_0.n : Int)) rfl rfl rfl) ?_
  refine fin ?_
  refine n25 _ _ ?_
  refine c_seq (fun Q30 n28 o29 => ?_)
  refine c_cond (b := decide (s1_9 < (a0_0.n : Int))) rfl (fun hb31 => ?_) (fun hb31 => ?_)
  · replace H := at_itet hb31 H
    refine c_skip ?_
    refine n28 _ _ ?_
    refine c_seq (fun Q34 n32 o33 => ?_)
    refine c_block (fun Q38 n35 x37 o36 => ?_)
    refine c_seq (fun Q41 n39 o40 => ?_)
    refine c_region ?_
    obtain ⟨p42, p43, he, h0, h1, hpa, H'⟩ := at_idx' H
    replace H := H'; clear H'
    refine stp (v := .pointer (some p43)) rfl rfl (r_indexAddr (v1 := Sl.v a0_0) (v2 := .int .i64 s1_9) rfl rfl rfl (ix' Try.underlying23 sz70 he h0 h1 hpa)) ?_
    clear he h0 h1 hpa
    obtain ⟨x44_0, hx45, H'⟩ := at_ldc H
    replace H := H'; clear H'
    obtain ⟨x44_1, hx46, H'⟩ := at_ldc H
    replace H := H'; clear H'
    obtain ⟨x44_2, hx47, H'⟩ := at_ldc H
    replace H := H'; clear H'
    refine stp (v := .agg #[.int .i64 x44_0, .string x44_1, Sl.v x44_2]) rfl rfl (r_load (v1 := .pointer (some p43)) rfl rfl (ldn (cs := [.int .i64 x44_0, .string x44_1, Sl.v x44_2]) Try.underlying70 rfl sz70 (cells_start (cells_cons (m := 0) (hx45 _ (Below.refl _ _)) (cells_cons (m := 1) (hx46 _ (Below.refl _ _)) (cells_cons (m := 2) (hx47 _ (Below.refl _ _)) cells_nil)))))) ?_
    obtain ⟨w48, N, g49, hw, hg, B, H⟩ := B.new H 70 #[.int .i64 0, .string (⟨#[]⟩ : ByteArray), Sl.v Sl.nil]
    refine stp (v := .pointer (some ⟨g49, 0, none⟩)) (w' := w48) rfl rfl (r_alloc rfl (alloc_run (al70 _) hw hg)) ?_
    clear hw hg
    obtain ⟨w2, hr, B, H⟩ := B.stn H (i := 0) (T := 70) (cs' := #[.int .i64 x44_0, .string x44_1, Sl.v x44_2]) (ad := ⟨g49, 0, none⟩) rfl rfl rfl rfl sz70
    refine stp0 rfl rfl (r_store (v1 := .pointer (some ⟨g49, 0, none⟩)) (v2 := .agg #[.int .i64 x44_0, .string x44_1, Sl.v x44_2]) rfl rfl rfl hr) ?_
    replace B : Bx _ _ [⟨g49, 70, #[.int .i64 x44_0, .string x44_1, Sl.v x44_2]⟩, ⟨g7, 26, #[Sl.v Sl.nil, Sl.v Sl.nil, .int .i64 0]⟩, ⟨g5, 26, #[Sl.v a0_0, Sl.v a0_1, .int .i64 a0_2]⟩] := B
    clear hr
    refine fin ?_
    refine n39 _ _ ?_
    refine c_seq (fun Q52 n50 o51 => ?_)
    refine c_region ?_
    obtain ⟨w53, g54, hw, hg, B, H⟩ := at_new' B H
    refine stp (v := Sl.v (⟨some ⟨g54, 0, none⟩, 0, 0⟩ : Sl)) (w' := w53) rfl rfl (r_buildSlice (qs := []) rfl rfl (bs_run (site3  _) hw hg)) ?_
    clear hw hg
    refine stp (v := .pointer (some ⟨g49, 2, none⟩)) rfl rfl (r_fieldAddr (v1 := .pointer (some ⟨g49, 0, none⟩)) rfl rfl (fld70_2 _ _)) ?_
    refine stp (v := Sl.v x44_2) rfl rfl (r_load (v1 := .pointer (some ⟨g49, 2, none⟩)) rfl rfl (ld1 Try.underlying24 rfl (bx1 (B.get 0 rfl) rfl rfl))) ?_
    obtain ⟨y55, w2, hr, B, H⟩ := at_run B H
    refine stp (v := Sl.v y55) rfl rfl (r_builtin (vs := [Sl.v (⟨some ⟨g54, 0, none⟩, 0, 0⟩ : Sl), Sl.v x44_2]) rfl rfl (fun _ => bi_append hr)) ?_
    clear hr
    refine stp (v := .pointer (some ⟨g49, 2, none⟩)) rfl rfl (r_fieldAddr (v1 := .pointer (some ⟨g49, 0, none⟩)) rfl rfl (fld70_2 _ _)) ?_
    obtain ⟨w2, hr, B, H⟩ := B.st1 H (i := 0) (j := 2) (T := 24) (v := Sl.v y55) (ad := ⟨g49, 2, none⟩) rfl rfl rfl rfl sz24
    refine stp0 rfl rfl (r_store (v1 := .pointer (some ⟨g49, 2, none⟩)) (v2 := Sl.v y55) rfl rfl rfl hr) ?_
    replace B : Bx _ _ [⟨g49, 70, #[.int .i64 x44_0, .string x44_1, Sl.v y55]⟩, ⟨g7, 26, #[Sl.v Sl.nil, Sl.v Sl.nil, .int .i64 0]⟩, ⟨g5, 26, #[Sl.v a0_0, Sl.v a0_1, .int .i64 a0_2]⟩] := B
    clear hr
    refine fin ?_
    refine n50 _ _ ?_
    refine c_region ?_
    refine stp (v := Sl.v s1_3) rfl rfl (r_move rfl rfl) ?_
    refine stp (v := .agg #[.int .i64 x44_0, .string x44_1, Sl.v y55]) rfl rfl (r_load (v1 := .pointer (some ⟨g49, 0, none⟩)) rfl rfl (bxn (B.get 0 rfl) Try.underlying70 rfl sz70)) ?_
    obtain ⟨w56, g57, hw, hg, B, H⟩ := at_new' B H
    refine stp (v := Sl.v (⟨some ⟨g57, 0, none⟩, 1, 1⟩ : Sl)) (w' := w56) rfl rfl (r_buildSlice (qs := [(0, .agg #[.int .i64 x44_0, .string x44_1, Sl.v y55])]) rfl rfl (bs_run (site7 x44_0 x44_1 y55 _) hw hg)) ?_
    clear hw hg
    obtain ⟨y58, w2, hr, B, H⟩ := at_run B H
    refine stp (v := Sl.v y58) rfl rfl (r_builtin (vs := [Sl.v s1_3, Sl.v (⟨some ⟨g57, 0, none⟩, 1, 1⟩ : Sl)]) rfl rfl (fun _ => bi_append hr)) ?_
    clear hr
    refine stp (v := Sl.v y58) rfl rfl (r_assign rfl rfl) ?_
    refine fin ?_
    refine n35 _ _ ?_
    refine n32 _ _ ?_
    refine c_region ?_
    refine stp (v := .int .i64 (IntKind.i64.wrap (s1_9 + 1))) rfl rfl (r_add (a := s1_9) (b := 1) rfl rfl rfl) ?_
    refine stp (v := .int .i64 (IntKind.i64.wrap (s1_9 + 1))) rfl rfl (r_move rfl rfl) ?_
    refine fin ?_
    exact nx21 ⟨y58, IntKind.i64.wrap (s1_9 + 1)⟩ _ _ _ (B.sub (List.Sublist.cons _ (List.Sublist.refl _))) H rfl
  · replace H := at_itef hb31 H
    refine c_exit (o29 _ _ _ nofun (o22 _ _ _ nofun (x19 _ _ ?_)))
    refine n11 _ _ ?_
    refine c_seq (fun Q61 n59 o60 => ?_)
    refine c_region ?_
    refine stp (v := Sl.v s1_3) rfl rfl (r_move rfl rfl) ?_
    refine stp (v := .pointer (some ⟨g5, 0, none⟩)) rfl rfl (r_fieldAddr (v1 := .pointer (some ⟨g5, 0, none⟩)) rfl rfl (fld26_0 _ _)) ?_
    obtain ⟨w2, hr, B, H⟩ := B.st1 H (i := 1) (j := 0) (T := 23) (v := Sl.v s1_3) (ad := ⟨g5, 0, none⟩) rfl rfl rfl rfl sz23
    refine stp0 rfl rfl (r_store (v1 := .pointer (some ⟨g5, 0, none⟩)) (v2 := Sl.v s1_3) rfl rfl rfl hr) ?_
    replace B : Bx _ _ [⟨g7, 26, #[Sl.v Sl.nil, Sl.v Sl.nil, .int .i64 0]⟩, ⟨g5, 26, #[Sl.v s1_3, Sl.v a0_1, .int .i64 a0_2]⟩] := B
    clear hr
    refine fin ?_
    refine n59 _ _ ?_
    refine c_seq (fun Q64 n62 o63 => ?_)
    refine c_region ?_
    obtain ⟨w65, g66, hw, hg, B, H⟩ := at_new' B H
    refine stp (v := Sl.v (⟨some ⟨g66, 0, none⟩, 0, 0⟩ : Sl)) (w' := w65) rfl rfl (r_buildSlice (qs := []) rfl rfl (bs_run (site3  _) hw hg)) ?_
    clear hw hg
    refine stp (v := .pointer (some ⟨g5, 1, none⟩)) rfl rfl (r_fieldAddr (v1 := .pointer (some ⟨g5, 0, none⟩)) rfl rfl (fld26_1 _ _)) ?_
    refine stp (v := Sl.v a0_1) rfl rfl (r_load (v1 := .pointer (some ⟨g5, 1, none⟩)) rfl rfl (ld1 Try.underlying24 rfl (bx1 (B.get 1 rfl) rfl rfl))) ?_
    obtain ⟨y67, w2, hr, B, H⟩ := at_run B H
    refine stp (v := Sl.v y67) rfl rfl (r_builtin (vs := [Sl.v (⟨some ⟨g66, 0, none⟩, 0, 0⟩ : Sl), Sl.v a0_1]) rfl rfl (fun _ => bi_append hr)) ?_
    clear hr
    refine stp (v := .pointer (some ⟨g5, 1, none⟩)) rfl rfl (r_fieldAddr (v1 := .pointer (some ⟨g5, 0, none⟩)) rfl rfl (fld26_1 _ _)) ?_
    obtain ⟨w2, hr, B, H⟩ := B.st1 H (i := 1) (j := 1) (T := 24) (v := Sl.v y67) (ad := ⟨g5, 1, none⟩) rfl rfl rfl rfl sz24
    refine stp0 rfl rfl (r_store (v1 := .pointer (some ⟨g5, 1, none⟩)) (v2 := Sl.v y67) rfl rfl rfl hr) ?_
    replace B : Bx _ _ [⟨g7, 26, #[Sl.v Sl.nil, Sl.v Sl.nil, .int .i64 0]⟩, ⟨g5, 26, #[Sl.v s1_3, Sl.v y67, .int .i64 a0_2]⟩] := B
    clear hr
    refine fin ?_
    refine n62 _ _ ?_
    refine c_seq (fun Q70 n68 o69 => ?_)
    refine c_region ?_
    refine stp (v := .agg #[Sl.v s1_3, Sl.v y67, .int .i64 a0_2]) rfl rfl (r_load (v1 := .pointer (some ⟨g5, 0, none⟩)) rfl rfl (bxn (B.get 1 rfl) Try.underlying26 rfl sz26)) ?_
    obtain ⟨w2, hr, B, H⟩ := B.stn H (i := 0) (T := 26) (cs' := #[Sl.v s1_3, Sl.v y67, .int .i64 a0_2]) (ad := ⟨g7, 0, none⟩) rfl rfl rfl rfl sz26
    refine stp0 rfl rfl (r_store (v1 := .pointer (some ⟨g7, 0, none⟩)) (v2 := .agg #[Sl.v s1_3, Sl.v y67, .int .i64 a0_2]) rfl rfl rfl hr) ?_
    replace B : Bx _ _ [⟨g7, 26, #[Sl.v s1_3, Sl.v y67, .int .i64 a0_2]⟩, ⟨g5, 26, #[Sl.v s1_3, Sl.v y67, .int .i64 a0_2]⟩] := B
    clear hr
    refine fin ?_
    refine n68 _ _ ?_
    refine c_ret ((done (vs := [.agg #[Sl.v s1_3, Sl.v y67, .int .i64 a0_2]]) (.cell rfl (bxn (B.get 0 rfl) Try.underlying26 rfl sz26) .nil) rfl ⟨_, rfl, H.now⟩))
end Go.Proofs.Ytboccoihmginiaa
