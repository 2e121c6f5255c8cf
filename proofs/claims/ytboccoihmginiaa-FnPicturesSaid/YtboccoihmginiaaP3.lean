/-
Helper texts: Helper text, written by a program of ours (gen.py): what Go functions do, as predicates on worlds. Helper text: what a call owns: rows of its own, apart from each other; what it reads of others. Helper text: the steps of a call within what it owns. Helper text: calls told by what they own; plain rows of integers. Helper text: what the copying, comparing and measuring functions do. No condition.
-/
import Derived.Test.YtboccoihmginiaaP2
import Derived.Maps.AppendAt
import Derived.Deep.Upon
namespace Go.Proofs.Ytboccoihmginiaa
open Go.RowKit Go.Sol
set_option linter.unusedVariables false
set_option linter.unusedSimpArgs false
def f50_spec_l1Cur_next.J1 (R : Value → World → Prop) (a0 : (Option Addr)) (j1_3 : Int) : Tm :=
  T.nn a0 fun (p37 : Addr) => T.ldc (p37.add 1) (Value.int .i64) fun (x39 : Int) => T.nn a0 fun (p41 : Addr) => T.stc (p41.add 1) (.int .i64 (IntKind.i64.wrap (x39 + 1))) (T.nn a0 fun (p48 : Addr) => T.ldc (p48.add 2) (Value.int .u64) fun (x50 : Int) => T.nn a0 fun (p52 : Addr) => T.stc (p52.add 2) (.int .u64 (IntKind.u64.wrap ((IntKind.u64.wrap ((IntKind.u64.wrap (x50 * 6364136223846793005)) + (IntKind.u64.wrap j1_3))) + 1442695040888963407))) (T.nn a0 fun (p62 : Addr) => T.ldc (p62.add 1) (Value.int .i64) fun (x64 : Int) => T.nn a0 fun (p66 : Addr) => T.ldc (p66.add 0) Sl.v fun (x68 : Sl) => T.ite (decide (x64 ≤ (x68.n : Int))) (T.ret R (.int .i64 j1_3)) (T.nn a0 fun (p77 : Addr) => T.ldc (p77.add 2) (Value.int .u64) fun (x79 : Int) => T.ret R (.int .i64 (IntKind.i64.wrap (bits .and .u64 (x79 / 2 ^ min (40 : Int).toNat (IntKind.u64.bits)) 255))))))
def f50_spec_l1Cur_next.T (R : Value → World → Prop) (a0 : (Option Addr)) : Tm :=
  T.nn a0 fun (p13 : Addr) => T.ldc (p13.add 1) (Value.int .i64) fun (x15 : Int) => T.nn a0 fun (p17 : Addr) => T.ldc (p17.add 0) Sl.v fun (x19 : Sl) => T.ite (decide (x15 < (x19.n : Int))) (T.nn a0 fun (p22 : Addr) => T.ldc (p22.add 0) Sl.v fun (x24 : Sl) => T.nn a0 fun (p26 : Addr) => T.ldc (p26.add 1) (Value.int .i64) fun (x28 : Int) => T.idx x24 x28 1 fun (p31 : Addr) => T.ldc p31 (Value.int .u8) fun (x32 : Int) => f50_spec_l1Cur_next.J1 R a0 (IntKind.i64.wrap x32)) (f50_spec_l1Cur_next.J1 R a0 0)
set_option maxHeartbeats 4000000 in
set_option maxRecDepth 100000 in
theorem f50_spec_l1Cur_next.ok (R : Value → World → Prop) (a0 : (Option Addr)) (w : World) (h : Aft w (fun _ => False) (f50_spec_l1Cur_next.T R a0)) :
    Calls Try.prog 50 (List.toArray [.pointer a0]) w fun e w' => ∃ v, e = .returned v ∧ R v w' := by
  refine enter 62 Try.func50 rfl rfl rfl ?_
  have B := Bx.nil w
  have H := h
  clear h
  refine c_seq (fun Q3 n1 o2 => ?_)
  refine c_region ?_
  refine stp (v := .int .i64 0) rfl rfl (r_assign rfl rfl) ?_
  refine fin ?_
  refine n1 _ _ ?_
  refine c_seq (fun Q6 n4 o5 => ?_)
  refine c_region ?_
  refine stp (v := .int .i64 0) rfl rfl (r_assign rfl rfl) ?_
  refine fin ?_
  refine n4 _ _ ?_
  refine c_seqj (fun a w => ∃ (j1_3 : Int) (g : Nat → Value) (N : NP), a = A 62 (updl g [(0, .pointer a0), (3, .int .i64 j1_3)]) ∧ Bx w N [] ∧ Aft w N (f50_spec_l1Cur_next.J1 R a0 j1_3)) (fun Q9 n7 o8 => ?_) ?_
  ·
    refine c_seq (fun Q12 n10 o11 => ?_)
    refine c_quiet rfl (by kernel_rfl) ?_
    refine qstp (v := .pointer a0) rfl rfl (fun w_ hb_ => (r_move rfl rfl)) ?_
    obtain ⟨p13, hp14, H'⟩ := at_nn H
    replace H := H'; clear H'
    refine qstp (v := .pointer (some p13)) rfl rfl (fun w_ hb_ => (r_nn rfl (congrArg Value.pointer hp14))) ?_
    refine qstp (v := .pointer (some (p13.add 1))) rfl rfl (fun w_ hb_ => (r_fieldAddr (v1 := .pointer (some p13)) rfl rfl (fld51_1 _ _))) ?_
    obtain ⟨x15, hx16, H'⟩ := at_ldc H
    replace H := H'; clear H'
    refine qstp (v := .int .i64 x15) rfl rfl (fun w_ hb_ => (r_load (v1 := .pointer (some (p13.add 1))) rfl rfl (ld1 Try.underlying3 rfl (hx16 _ hb_)))) ?_
    refine qstp (v := .pointer a0) rfl rfl (fun w_ hb_ => (r_move rfl rfl)) ?_
    obtain ⟨p17, hp18, H'⟩ := at_nn H
    replace H := H'; clear H'
    refine qstp (v := .pointer (some p17)) rfl rfl (fun w_ hb_ => (r_nn rfl (congrArg Value.pointer hp18))) ?_
    refine qstp (v := .pointer (some (p17.add 0))) rfl rfl (fun w_ hb_ => (r_fieldAddr (v1 := .pointer (some p17)) rfl rfl (fld51_0 _ _))) ?_
    obtain ⟨x19, hx20, H'⟩ := at_ldc H
    replace H := H'; clear H'
    refine qstp (v := Sl.v x19) rfl rfl (fun w_ hb_ => (r_load (v1 := .pointer (some (p17.add 0))) rfl rfl (ld1 Try.underlying22 rfl (hx20 _ hb_)))) ?_
    refine qstp (v := .int .i64 (x19.n : Int)) rfl rfl (fun w_ hb_ => (r_builtin (vs := [Sl.v x19]) rfl rfl (fun _ => lenl Try.underlying22))) ?_
    refine qstp (v := .bool (decide (x15 < (x19.n : Int)))) rfl rfl (fun w_ hb_ => (r_lss (a := x15) (b := (x19.n : Int)) rfl rfl rfl)) ?_
    refine qfin (fun w hb => ?_)
    replace B := B.quiet (Qt.of_below hb)
    replace H := H.step (Nz.of_below hb)
    refine n10 _ _ ?_
    refine c_cond (b := decide (x15 < (x19.n : Int))) rfl (fun hb21 => ?_) (fun hb21 => ?_)
    · replace H := at_itet hb21 H
      refine c_quiet rfl (by kernel_rfl) ?_
      refine qstp (v := .pointer a0) rfl rfl (fun w_ hb_ => (r_move rfl rfl)) ?_
      obtain ⟨p22, hp23, H'⟩ := at_nn H
      replace H := H'; clear H'
      refine qstp (v := .pointer (some p22)) rfl rfl (fun w_ hb_ => (r_nn rfl (congrArg Value.pointer hp23))) ?_
      refine qstp (v := .pointer (some (p22.add 0))) rfl rfl (fun w_ hb_ => (r_fieldAddr (v1 := .pointer (some p22)) rfl rfl (fld51_0 _ _))) ?_
      obtain ⟨x24, hx25, H'⟩ := at_ldc H
      replace H := H'; clear H'
      refine qstp (v := Sl.v x24) rfl rfl (fun w_ hb_ => (r_load (v1 := .pointer (some (p22.add 0))) rfl rfl (ld1 Try.underlying22 rfl (hx25 _ hb_)))) ?_
      refine qstp (v := .pointer a0) rfl rfl (fun w_ hb_ => (r_move rfl rfl)) ?_
      obtain ⟨p26, hp27, H'⟩ := at_nn H
      replace H := H'; clear H'
      refine qstp (v := .pointer (some p26)) rfl rfl (fun w_ hb_ => (r_nn rfl (congrArg Value.pointer hp27))) ?_
      refine qstp (v := .pointer (some (p26.add 1))) rfl rfl (fun w_ hb_ => (r_fieldAddr (v1 := .pointer (some p26)) rfl rfl (fld51_1 _ _))) ?_
      obtain ⟨x28, hx29, H'⟩ := at_ldc H
      replace H := H'; clear H'
      refine qstp (v := .int .i64 x28) rfl rfl (fun w_ hb_ => (r_load (v1 := .pointer (some (p26.add 1))) rfl rfl (ld1 Try.underlying3 rfl (hx29 _ hb_)))) ?_
      obtain ⟨p30, p31, he, h0, h1, hpa, H'⟩ := at_idx' H
      replace H := H'; clear H'
      refine qstp (v := .pointer (some p31)) rfl rfl (fun w_ hb_ => (r_indexAddr (v1 := Sl.v x24) (v2 := .int .i64 x28) rfl rfl rfl (ix' Try.underlying22 sz5 he h0 h1 hpa))) ?_
      clear he h0 h1 hpa
      obtain ⟨x32, hx33, H'⟩ := at_ldc H
      replace H := H'; clear H'
      refine qstp (v := .int .u8 x32) rfl rfl (fun w_ hb_ => (r_load (v1 := .pointer (some p31)) rfl rfl (ld1 Try.underlying5 rfl (hx33 _ hb_)))) ?_
      refine qstp (v := .int .i64 (IntKind.i64.wrap x32)) rfl rfl (fun w_ hb_ => (r_convert (v1 := .int .u8 x32) rfl rfl (cvi Try.underlying5 Try.underlying3))) ?_
      refine qstp (v := .int .i64 (IntKind.i64.wrap x32)) rfl rfl (fun w_ hb_ => (r_assign rfl rfl)) ?_
      refine qfin (fun w hb => ?_)
      replace B := B.quiet (Qt.of_below hb)
      replace H := H.step (Nz.of_below hb)
      exact n7 _ _ ⟨IntKind.i64.wrap x32, _, _, fr_self rfl, B, H⟩
    · replace H := at_itef hb21 H
      refine c_skip ?_
      exact n7 _ _ ⟨0, _, _, fr_self rfl, B, H⟩
  ·
    rintro _ w ⟨j1_3, g, N, rfl, B, H⟩
    refine c_seq (fun Q36 n34 o35 => ?_)
    refine c_region ?_
    refine stp (v := .pointer a0) rfl rfl (r_move rfl rfl) ?_
    obtain ⟨p37, hp38, H'⟩ := at_nn H
    replace H := H'; clear H'
    refine stp (v := .pointer (some p37)) rfl rfl (r_nn rfl (congrArg Value.pointer hp38)) ?_
    refine stp (v := .pointer (some (p37.add 1))) rfl rfl (r_fieldAddr (v1 := .pointer (some p37)) rfl rfl (fld51_1 _ _)) ?_
    obtain ⟨x39, hx40, H'⟩ := at_ldc H
    replace H := H'; clear H'
    refine stp (v := .int .i64 x39) rfl rfl (r_load (v1 := .pointer (some (p37.add 1))) rfl rfl (ld1 Try.underlying3 rfl (hx40 _ (Below.refl _ _)))) ?_
    refine stp (v := .int .i64 (IntKind.i64.wrap (x39 + 1))) rfl rfl (r_add (a := x39) (b := 1) rfl rfl rfl) ?_
    obtain ⟨p41, hp42, H'⟩ := at_nn H
    replace H := H'; clear H'
    refine stp (v := .pointer (some p41)) rfl rfl (r_nn rfl (congrArg Value.pointer hp42)) ?_
    refine stp (v := .pointer (some (p41.add 1))) rfl rfl (r_fieldAddr (v1 := .pointer (some p41)) rfl rfl (fld51_1 _ _)) ?_
    obtain ⟨hc43, hf44, B', H'⟩ := at_stc B H
    replace B := B'; clear B'
    replace H := H'; clear H'
    refine stp0 rfl rfl (r_store (v1 := .pointer (some (p41.add 1))) (v2 := .int .i64 (IntKind.i64.wrap (x39 + 1))) rfl rfl rfl (st1 rfl sz3 hc43 hf44)) ?_
    refine fin ?_
    refine n34 _ _ ?_
    refine c_seq (fun Q47 n45 o46 => ?_)
    refine c_region ?_
    refine stp (v := .pointer a0) rfl rfl (r_move rfl rfl) ?_
    refine stp (v := .pointer a0) rfl rfl (r_move rfl rfl) ?_
    obtain ⟨p48, hp49, H'⟩ := at_nn H
    replace H := H'; clear H'
    refine stp (v := .pointer (some p48)) rfl rfl (r_nn rfl (congrArg Value.pointer hp49)) ?_
    refine stp (v := .pointer (some (p48.add 2))) rfl rfl (r_fieldAddr (v1 := .pointer (some p48)) rfl rfl (fld51_2 _ _)) ?_
    obtain ⟨x50, hx51, H'⟩ := at_ldc H
    replace H := H'; clear H'
    refine stp (v := .int .u64 x50) rfl rfl (r_load (v1 := .pointer (some (p48.add 2))) rfl rfl (ld1 Try.underlying49 rfl (hx51 _ (Below.refl _ _)))) ?_
    refine stp (v := .int .u64 (IntKind.u64.wrap (x50 * 6364136223846793005))) rfl rfl (r_mul (a := x50) (b := 6364136223846793005) rfl rfl rfl) ?_
    refine stp (v := .int .i64 j1_3) rfl rfl (r_move rfl rfl) ?_
    refine stp (v := .int .u64 (IntKind.u64.wrap j1_3)) rfl rfl (r_convert (v1 := .int .i64 j1_3) rfl rfl (cvi Try.underlying3 Try.underlying49)) ?_
    refine stp (v := .int .u64 (IntKind.u64.wrap ((IntKind.u64.wrap (x50 * 6364136223846793005)) + (IntKind.u64.wrap j1_3)))) rfl rfl (r_add (a := IntKind.u64.wrap (x50 * 6364136223846793005)) (b := IntKind.u64.wrap j1_3) rfl rfl rfl) ?_
    refine stp (v := .int .u64 (IntKind.u64.wrap ((IntKind.u64.wrap ((IntKind.u64.wrap (x50 * 6364136223846793005)) + (IntKind.u64.wrap j1_3))) + 1442695040888963407))) rfl rfl (r_add (a := IntKind.u64.wrap ((IntKind.u64.wrap (x50 * 6364136223846793005)) + (IntKind.u64.wrap j1_3))) (b := 1442695040888963407) rfl rfl rfl) ?_
    obtain ⟨p52, hp53, H'⟩ := at_nn H
    replace H := H'; clear H'
    refine stp (v := .pointer (some p52)) rfl rfl (r_nn rfl (congrArg Value.pointer hp53)) ?_
    refine stp (v := .pointer (some (p52.add 2))) rfl rfl (r_fieldAddr (v1 := .pointer (some p52)) rfl rfl (fld51_2 _ _)) ?_
    obtain ⟨hc54, hf55, B', H'⟩ := at_stc B H
    replace B := B'; clear B'
    replace H := H'; clear H'
    refine stp0 rfl rfl (r_store (v1 := .pointer (some (p52.add 2))) (v2 := .int .u64 (IntKind.u64.wrap ((IntKind.u64.wrap ((IntKind.u64.wrap (x50 * 6364136223846793005)) + (IntKind.u64.wrap j1_3))) + 1442695040888963407))) rfl rfl rfl (st1 rfl sz49 hc54 hf55)) ?_
    refine fin ?_
    refine n45 _ _ ?_
    refine c_seq (fun Q58 n56 o57 => ?_)
    refine c_seq (fun Q61 n59 o60 => ?_)
    refine c_quiet rfl (by kernel_rfl) ?_
    refine qstp (v := .pointer a0) rfl rfl (fun w_ hb_ => (r_move rfl rfl)) ?_
    obtain ⟨p62, hp63, H'⟩ := at_nn H
    replace H := H'; clear H'
    refine qstp (v := .pointer (some p62)) rfl rfl (fun w_ hb_ => (r_nn rfl (congrArg Value.pointer hp63))) ?_
    refine qstp (v := .pointer (some (p62.add 1))) rfl rfl (fun w_ hb_ => (r_fieldAddr (v1 := .pointer (some p62)) rfl rfl (fld51_1 _ _))) ?_
    obtain ⟨x64, hx65, H'⟩ := at_ldc H
    replace H := H'; clear H'
    refine qstp (v := .int .i64 x64) rfl rfl (fun w_ hb_ => (r_load (v1 := .pointer (some (p62.add 1))) rfl rfl (ld1 Try.underlying3 rfl (hx65 _ hb_)))) ?_
    refine qstp (v := .pointer a0) rfl rfl (fun w_ hb_ => (r_move rfl rfl)) ?_
    obtain ⟨p66, hp67, H'⟩ := at_nn H
    replace H := H'; clear H'
    refine qstp (v := .pointer (some p66)) rfl rfl (fun w_ hb_ => (r_nn rfl (congrArg Value.pointer hp67))) ?_
    refine qstp (v := .pointer (some (p66.add 0))) rfl rfl (fun w_ hb_ => (r_fieldAddr (v1 := .pointer (some p66)) rfl rfl (fld51_0 _ _))) ?_
    obtain ⟨x68, hx69, H'⟩ := at_ldc H
    replace H := H'; clear H'
    refine qstp (v := Sl.v x68) rfl rfl (fun w_ hb_ => (r_load (v1 := .pointer (some (p66.add 0))) rfl rfl (ld1 Try.underlying22 rfl (hx69 _ hb_)))) ?_
    refine qstp (v := .int .i64 (x68.n : Int)) rfl rfl (fun w_ hb_ => (r_builtin (vs := [Sl.v x68]) rfl rfl (fun _ => lenl Try.underlying22))) ?_
    refine qstp (v := .bool (decide (x64 ≤ (x68.n : Int)))) rfl rfl (fun w_ hb_ => (r_leq (a := x64) (b := (x68.n : Int)) rfl rfl rfl)) ?_
    refine qfin (fun w hb => ?_)
    replace B := B.quiet (Qt.of_below hb)
    replace H := H.step (Nz.of_below hb)
    refine n59 _ _ ?_
    refine c_cond (b := decide (x64 ≤ (x68.n : Int))) rfl (fun hb70 => ?_) (fun hb70 => ?_)
    · replace H := at_itet hb70 H
      refine c_seq (fun Q73 n71 o72 => ?_)
      refine c_region ?_
      refine stp (v := .int .i64 j1_3) rfl rfl (r_move rfl rfl) ?_
      refine stp (v := .int .i64 j1_3) rfl rfl (r_assign rfl rfl) ?_
      refine fin ?_
      refine n71 _ _ ?_
      refine c_ret (o57 _ _ _ nofun ((done (vs := [.int .i64 j1_3]) (.tmp rfl .nil) rfl ⟨_, rfl, H.now⟩)))
    · replace H := at_itef hb70 H
      refine c_skip ?_
      refine n56 _ _ ?_
      refine c_seq (fun Q76 n74 o75 => ?_)
      refine c_region ?_
      refine stp (v := .pointer a0) rfl rfl (r_move rfl rfl) ?_
      obtain ⟨p77, hp78, H'⟩ := at_nn H
      replace H := H'; clear H'
      refine stp (v := .pointer (some p77)) rfl rfl (r_nn rfl (congrArg Value.pointer hp78)) ?_
      refine stp (v := .pointer (some (p77.add 2))) rfl rfl (r_fieldAddr (v1 := .pointer (some p77)) rfl rfl (fld51_2 _ _)) ?_
      obtain ⟨x79, hx80, H'⟩ := at_ldc H
      replace H := H'; clear H'
      refine stp (v := .int .u64 x79) rfl rfl (r_load (v1 := .pointer (some (p77.add 2))) rfl rfl (ld1 Try.underlying49 rfl (hx80 _ (Below.refl _ _)))) ?_
      refine stp (v := .int .u64 (x79 / 2 ^ min (40 : Int).toNat (IntKind.u64.bits))) rfl rfl (r_shr (a := x79) (b := 40) rfl rfl rfl (by decide)) ?_
      refine stp (v := .int .u64 (bits .and .u64 (x79 / 2 ^ min (40 : Int).toNat (IntKind.u64.bits)) 255)) rfl rfl (r_and (a := x79 / 2 ^ min (40 : Int).toNat (IntKind.u64.bits)) (b := 255) rfl rfl rfl) ?_
      refine stp (v := .int .i64 (IntKind.i64.wrap (bits .and .u64 (x79 / 2 ^ min (40 : Int).toNat (IntKind.u64.bits)) 255))) rfl rfl (r_convert (v1 := .int .u64 (bits .and .u64 (x79 / 2 ^ min (40 : Int).toNat (IntKind.u64.bits)) 255)) rfl rfl (cvi Try.underlying49 Try.underlying3)) ?_
      refine stp (v := .int .i64 (IntKind.i64.wrap (bits .and .u64 (x79 / 2 ^ min (40 : Int).toNat (IntKind.u64.bits)) 255))) rfl rfl (r_assign rfl rfl) ?_
      refine fin ?_
      refine n74 _ _ ?_
      refine c_ret ((done (vs := [.int .i64 (IntKind.i64.wrap (bits .and .u64 (x79 / 2 ^ min (40 : Int).toNat (IntKind.u64.bits)) 255))]) (.tmp rfl .nil) rfl ⟨_, rfl, H.now⟩))
def f51_slices_Clone_int_int.T (R : Value → World → Prop) (a0 : Sl) : Tm :=
  T.ite a0.A.isNone (T.ret R (Sl.v Sl.nil)) (T.new (.cells #[] 3) fun (g18 : Nat) => T.run Try.prog (Builtin.append_ #[24, 24] 24 #[Sl.v (⟨some ⟨g18, 0, none⟩, 0, 0⟩ : Sl), Sl.v a0]) Sl.v fun (y19 : Sl) => T.ret R (Sl.v y19))
set_option maxHeartbeats 4000000 in
set_option maxRecDepth 100000 in
theorem f51_slices_Clone_int_int.ok (R : Value → World → Prop) (a0 : Sl) (w : World) (h : Aft w (fun _ => False) (f51_slices_Clone_int_int.T R a0)) :
    Calls Try.prog 51 (List.toArray [Sl.v a0]) w fun e w' => ∃ v, e = .returned v ∧ R v w' := by
  refine enter 8 Try.func51 rfl rfl rfl ?_
  have B := Bx.nil w
  have H := h
  clear h
  refine c_seq (fun Q3 n1 o2 => ?_)
  refine c_region ?_
  refine stp (v := Sl.v Sl.nil) rfl rfl (r_assign rfl rfl) ?_
  refine fin ?_
  refine n1 _ _ ?_
  refine c_seq (fun Q6 n4 o5 => ?_)
  refine c_seq (fun Q9 n7 o8 => ?_)
  refine c_region ?_
  refine stp (v := Sl.v a0) rfl rfl (r_move rfl rfl) ?_
  refine stp (v := .bool a0.A.isNone) rfl rfl (r_leql (s := a0) rfl rfl rfl Try.underlying24) ?_
  refine fin ?_
  refine n7 _ _ ?_
  refine c_cond (b := a0.A.isNone) rfl (fun hb10 => ?_) (fun hb10 => ?_)
  · replace H := at_itet hb10 H
    refine c_seq (fun Q13 n11 o12 => ?_)
    refine c_region ?_
    refine stp (v := Sl.v Sl.nil) rfl rfl (r_assign rfl rfl) ?_
    refine fin ?_
    refine n11 _ _ ?_
    refine c_ret (o5 _ _ _ nofun ((done (vs := [Sl.v Sl.nil]) (.tmp rfl .nil) rfl ⟨_, rfl, H.now⟩)))
  · replace H := at_itef hb10 H
    refine c_skip ?_
    refine n4 _ _ ?_
    refine c_seq (fun Q16 n14 o15 => ?_)
    refine c_region ?_
    obtain ⟨w17, g18, hw, hg, B, H⟩ := at_new' B H
    refine stp (v := Sl.v (⟨some ⟨g18, 0, none⟩, 0, 0⟩ : Sl)) (w' := w17) rfl rfl (r_buildSlice (qs := []) rfl rfl (bs_run (site3  _) hw hg)) ?_
    clear hw hg
    refine stp (v := Sl.v a0) rfl rfl (r_move rfl rfl) ?_
    obtain ⟨y19, w2, hr, B, H⟩ := at_run B H
    refine stp (v := Sl.v y19) rfl rfl (r_builtin (vs := [Sl.v (⟨some ⟨g18, 0, none⟩, 0, 0⟩ : Sl), Sl.v a0]) rfl rfl (fun _ => bi_append hr)) ?_
    clear hr
    refine stp (v := Sl.v y19) rfl rfl (r_assign rfl rfl) ?_
    refine fin ?_
    refine n14 _ _ ?_
    refine c_ret ((done (vs := [Sl.v y19]) (.tmp rfl .nil) rfl ⟨_, rfl, H.now⟩))
def f52_impl_digit.T (R : Value → World → Prop) (a0 : Int) (a1 : Int) : Tm :=
  T.ass (0 ≤ (IntKind.i64.wrap (2 * (IntKind.i64.wrap (a1 - 2))))) (T.ret R (.int .i64 (bits .and .i64 (a0 / 2 ^ min (IntKind.i64.wrap (2 * (IntKind.i64.wrap (a1 - 2)))).toNat (IntKind.i64.bits)) 3)))
set_option maxHeartbeats 4000000 in
set_option maxRecDepth 100000 in
theorem f52_impl_digit.ok (R : Value → World → Prop) (a0 : Int) (a1 : Int) (w : World) (h : Aft w (fun _ => False) (f52_impl_digit.T R a0 a1)) :
    Calls Try.prog 52 (List.toArray [.int .i64 a0, .int .i64 a1]) w fun e w' => ∃ v, e = .returned v ∧ R v w' := by
  refine enter 11 Try.func52 rfl rfl rfl ?_
  have B := Bx.nil w
  have H := h
  clear h
  refine c_seq (fun Q3 n1 o2 => ?_)
  refine c_region ?_
  refine stp (v := .int .i64 0) rfl rfl (r_assign rfl rfl) ?_
  refine fin ?_
  refine n1 _ _ ?_
  refine c_seq (fun Q6 n4 o5 => ?_)
  refine c_region ?_
  refine stp (v := .int .i64 a0) rfl rfl (r_move rfl rfl) ?_
  refine stp (v := .int .i64 a1) rfl rfl (r_move rfl rfl) ?_
  refine stp (v := .int .i64 (IntKind.i64.wrap (a1 - 2))) rfl rfl (r_sub (a := a1) (b := 2) rfl rfl rfl) ?_
  refine stp (v := .int .i64 (IntKind.i64.wrap (2 * (IntKind.i64.wrap (a1 - 2))))) rfl rfl (r_mul (a := 2) (b := IntKind.i64.wrap (a1 - 2)) rfl rfl rfl) ?_
  obtain ⟨ha, H'⟩ := at_ass H
  replace H := H'; clear H'
  refine stp (v := .int .i64 (a0 / 2 ^ min (IntKind.i64.wrap (2 * (IntKind.i64.wrap (a1 - 2)))).toNat (IntKind.i64.bits))) rfl rfl (r_shr (a := a0) (b := IntKind.i64.wrap (2 * (IntKind.i64.wrap (a1 - 2)))) rfl rfl rfl ha) ?_
  clear ha
  refine stp (v := .int .i64 (bits .and .i64 (a0 / 2 ^ min (IntKind.i64.wrap (2 * (IntKind.i64.wrap (a1 - 2)))).toNat (IntKind.i64.bits)) 3)) rfl rfl (r_and (a := a0 / 2 ^ min (IntKind.i64.wrap (2 * (IntKind.i64.wrap (a1 - 2)))).toNat (IntKind.i64.bits)) (b := 3) rfl rfl rfl) ?_
  refine stp (v := .int .i64 (bits .and .i64 (a0 / 2 ^ min (IntKind.i64.wrap (2 * (IntKind.i64.wrap (a1 - 2)))).toNat (IntKind.i64.bits)) 3)) rfl rfl (r_assign rfl rfl) ?_
  refine fin ?_
  refine n4 _ _ ?_
  refine c_ret ((done (vs := [.int .i64 (bits .and .i64 (a0 / 2 ^ min (IntKind.i64.wrap (2 * (IntKind.i64.wrap (a1 - 2)))).toNat (IntKind.i64.bits)) 3)]) (.tmp rfl .nil) rfl ⟨_, rfl, H.now⟩))
def f53_impl_Cow_own.J3 (R : Value → World → Prop) (next93 : (Int) → Tm) (s2_64 : Int) : Tm :=
  next93 (IntKind.i64.wrap (s2_64 + 1))
def f53_impl_Cow_own.L2 (R : Value → World → Prop) (a0 : (Option Addr)) (x55_0 : Int) (x55_1 : ByteArray) (y79 : Sl) (s2_64 : Int) (next93 : (Int) → Tm) : Tm :=
  T.ite (decide (s2_64 < (y79.n : Int))) (T.idx y79 s2_64 1 fun (p112 : Addr) => T.ldc p112 (Value.int .i64) fun (x113 : Int) => T.ite (decide (0 ≤ x113)) (T.nn a0 fun (p119 : Addr) => T.ldc (p119.add 0) Sl.v fun (x121 : Sl) => T.idx x121 x113 3 fun (p124 : Addr) => T.ldc (p124.add 0) (Value.int .i64) fun (x125 : Int) => T.idx x121 x113 3 fun (p128 : Addr) => T.stc (p128.add 0) (.int .i64 (IntKind.i64.wrap (x125 + 1))) (f53_impl_Cow_own.J3 R next93 s2_64 )) (f53_impl_Cow_own.J3 R next93 s2_64 )) (T.call Try.prog 64 [.pointer a0, .agg #[.int .i64 x55_0, .string x55_1, Sl.v y79]] (Value.int .i64) fun (y134 : Int) => T.ret R (.int .i64 y134))
def f53_impl_Cow_own.J1 (R : Value → World → Prop) (a0 : (Option Addr)) (a1 : Int) (j1_10 : Bool) : Tm :=
  T.ite j1_10 (T.call Try.prog 64 [.pointer a0, .agg #[.int .i64 0, .string (⟨#[]⟩ : ByteArray), Sl.v Sl.nil]] (Value.int .i64) fun (y19 : Int) => T.ret R (.int .i64 y19)) (T.ite (decide (a1 < 0)) (T.new (.cells #[.int .i64 (-1)] 3) fun (g28 : Nat) => T.call Try.prog 65 [Sl.v (⟨some ⟨g28, 0, none⟩, 1, 1⟩ : Sl), .int .i64 4] Sl.v fun (y29 : Sl) => T.call Try.prog 64 [.pointer a0, .agg #[.int .i64 0, .string (⟨#[]⟩ : ByteArray), Sl.v y29]] (Value.int .i64) fun (y30 : Int) => T.ret R (.int .i64 y30)) (T.nn a0 fun (p34 : Addr) => T.ldc (p34.add 0) Sl.v fun (x36 : Sl) => T.idx x36 a1 3 fun (p39 : Addr) => T.ldc (p39.add 0) (Value.int .i64) fun (x40 : Int) => T.ite (x40 == 1) (T.ret R (.int .i64 a1)) (T.nn a0 fun (p49 : Addr) => T.ldc (p49.add 0) Sl.v fun (x51 : Sl) => T.idx x51 a1 3 fun (p54 : Addr) => T.ldc (p54.add 0) (Value.int .i64) fun (x55_0 : Int) => T.ldc (p54.add 1) Value.string fun (x55_1 : ByteArray) => T.ldc (p54.add 2) Sl.v fun (x55_2 : Sl) => T.nn a0 fun (p64 : Addr) => T.ldc (p64.add 0) Sl.v fun (x66 : Sl) => T.idx x66 a1 3 fun (p69 : Addr) => T.ldc (p69.add 0) (Value.int .i64) fun (x70 : Int) => T.idx x66 a1 3 fun (p73 : Addr) => T.stc (p73.add 0) (.int .i64 (IntKind.i64.wrap (x70 - 1))) (T.call Try.prog 51 [Sl.v x55_2] Sl.v fun (y79 : Sl) => T.loop (fun (s : Int) next => f53_impl_Cow_own.L2 R a0 x55_0 x55_1 y79 s (fun (z0 : Int) => next z0)) 0))))
def f53_impl_Cow_own.T (R : Value → World → Prop) (a0 : (Option Addr)) (a1 : Int) (a2 : Int) : Tm :=
  T.ite (decide (a1 < 0)) (f53_impl_Cow_own.J1 R a0 a1 (a2 == 1)) (f53_impl_Cow_own.J1 R a0 a1 false)
set_option maxHeartbeats 4000000 in
set_option maxRecDepth 100000 in
theorem f53_impl_Cow_own.ok (R : Value → World → Prop) (a0 : (Option Addr)) (a1 : Int) (a2 : Int) (w : World) (h : Aft w (fun _ => False) (f53_impl_Cow_own.T R a0 a1 a2)) :
    Calls Try.prog 53 (List.toArray [.pointer a0, .int .i64 a1, .int .i64 a2]) w fun e w' => ∃ v, e = .returned v ∧ R v w' := by
  refine enter 85 Try.func53 rfl rfl rfl ?_
  have B := Bx.nil w
  have H := h
  clear h
  refine c_seq (fun Q3 n1 o2 => ?_)
  refine c_region ?_
  refine stp (v := .int .i64 0) rfl rfl (r_assign rfl rfl) ?_
  refine fin ?_
  refine n1 _ _ ?_
  refine c_seq (fun Q6 n4 o5 => ?_)
  refine c_block (fun Q10 n7 x9 o8 => ?_)
  refine c_seqj (fun a w => ∃ (j1_10 : Bool) (g : Nat → Value) (N : NP), a = A 85 (updl g [(0, .pointer a0), (1, .int .i64 a1), (10, .bool j1_10)]) ∧ Bx w N [] ∧ Aft w N (f53_impl_Cow_own.J1 R a0 a1 j1_10)) (fun Q13 n11 o12 => ?_) ?_
  ·
    refine c_region ?_
    refine stp (v := .int .i64 a1) rfl rfl (r_move rfl rfl) ?_
    refine stp (v := .bool (decide (a1 < 0))) rfl rfl (r_lss (a := a1) (b := 0) rfl rfl rfl) ?_
    refine stp (v := .bool (decide (a1 < 0))) rfl rfl (r_move rfl rfl) ?_
    rcases Bool.eq_false_or_eq_true (decide (a1 < 0)) with hb14 | hb14
    · replace H := at_itet hb14 H
      refine stp (v := .int .i64 a2) (wn rfl rfl rfl rfl (congrArg Value.bool hb14)) rfl (r_move rfl rfl) ?_
      refine stp (v := .bool (a2 == 1)) (wn rfl rfl rfl rfl (congrArg Value.bool hb14)) rfl (r_eql (a := a2) (b := 1) rfl rfl rfl) ?_
      refine stp (v := .bool (a2 == 1)) rfl rfl (r_pickt rfl (congrArg Value.bool hb14) rfl) ?_
      refine stp (v := .bool (a2 == 1)) rfl rfl (r_assign rfl rfl) ?_
      refine fin ?_
      exact n11 _ _ ⟨a2 == 1, _, _, fr_self rfl, B, H⟩
    · replace H := at_itef hb14 H
      refine skp (un rfl rfl rfl rfl (congrArg Value.bool hb14) nofun) rfl ?_
      refine skp (un rfl rfl rfl rfl (congrArg Value.bool hb14) nofun) rfl ?_
      refine stp (v := .bool false) rfl rfl (r_pickf rfl (congrArg Value.bool hb14) rfl) ?_
      refine stp (v := .bool false) rfl rfl (r_assign rfl rfl) ?_
      refine fin ?_
      exact n11 _ _ ⟨false, _, _, fr_self rfl, B, H⟩
  ·
    rintro _ w ⟨j1_10, g, N, rfl, B, H⟩
    refine c_cond (b := j1_10) rfl (fun hb15 => ?_) (fun hb15 => ?_)
    · replace H := at_itet hb15 H
      refine c_seq (fun Q18 n16 o17 => ?_)
      refine c_region ?_
      refine stp (v := .pointer a0) rfl rfl (r_move rfl rfl) ?_
      refine stp (v := .agg #[.int .i64 0, .string (⟨#[]⟩ : ByteArray), Sl.v Sl.nil]) rfl rfl (r_build (qs := []) rfl rfl (site8  _)) ?_
      refine stpc rfl rfl (r_call (vs := [.pointer a0, .agg #[.int .i64 0, .string (⟨#[]⟩ : ByteArray), Sl.v Sl.nil]]) rfl rfl (ca64 _ _)) ?_
      refine at_call B H (fun y19 w B H => ?_)
      refine stp (v := .int .i64 y19) rfl rfl (r_assign rfl rfl) ?_
      refine fin ?_
      refine n16 _ _ ?_
      refine c_ret (o8 _ _ _ nofun (by simp) (o5 _ _ _ nofun ((done (vs := [.int .i64 y19]) (.tmp rfl .nil) rfl ⟨_, rfl, H.now⟩))))
    · replace H := at_itef hb15 H
      refine c_seq (fun Q22 n20 o21 => ?_)
      refine c_region ?_
      refine stp (v := .int .i64 a1) rfl rfl (r_move rfl rfl) ?_
      refine stp (v := .bool (decide (a1 < 0))) rfl rfl (r_lss (a := a1) (b := 0) rfl rfl rfl) ?_
      refine stp (v := .bool (decide (a1 < 0))) rfl rfl (r_assign rfl rfl) ?_
      refine fin ?_
      refine n20 _ _ ?_
      refine c_cond (b := decide (a1 < 0)) rfl (fun hb23 => ?_) (fun hb23 => ?_)
      · replace H := at_itet hb23 H
        refine c_seq (fun Q26 n24 o25 => ?_)
        refine c_region ?_
        refine stp (v := .pointer a0) rfl rfl (r_move rfl rfl) ?_
        obtain ⟨w27, g28, hw, hg, B, H⟩ := at_new' B H
        refine stp (v := Sl.v (⟨some ⟨g28, 0, none⟩, 1, 1⟩ : Sl)) (w' := w27) rfl rfl (r_buildSlice (qs := [(0, .int .i64 (-1))]) rfl rfl (bs_run (site9 (-1) _) hw hg)) ?_
        clear hw hg
        refine stpc rfl rfl (r_call (vs := [Sl.v (⟨some ⟨g28, 0, none⟩, 1, 1⟩ : Sl), .int .i64 4]) rfl rfl (ca65 _ _)) ?_
        refine at_call B H (fun y29 w B H => ?_)
        refine stp (v := .agg #[.int .i64 0, .string (⟨#[]⟩ : ByteArray), Sl.v y29]) rfl rfl (r_build (qs := [(2, Sl.v y29)]) rfl rfl (site11 y29 _)) ?_
        refine stpc rfl rfl (r_call (vs := [.pointer a0, .agg #[.int .i64 0, .string (⟨#[]⟩ : ByteArray), Sl.v y29]]) rfl rfl (ca64 _ _)) ?_
        refine at_call B H (fun y30 w B H => ?_)
        refine stp (v := .int .i64 y30) rfl rfl (r_assign rfl rfl) ?_
        refine fin ?_
        refine n24 _ _ ?_
        refine c_ret (o8 _ _ _ nofun (by simp) (o5 _ _ _ nofun ((done (vs := [.int .i64 y30]) (.tmp rfl .nil) rfl ⟨_, rfl, H.now⟩))))
      · replace H := at_itef hb23 H
        refine c_seq (fun Q33 n31 o32 => ?_)
        refine c_region ?_
        refine stp (v := .pointer a0) rfl rfl (r_move rfl rfl) ?_
        obtain ⟨p34, hp35, H'⟩ := at_nn H
        replace H := H'; clear H'
        refine stp (v := .pointer (some p34)) rfl rfl (r_nn rfl (congrArg Value.pointer hp35)) ?_
        refine stp (v := .pointer (some (p34.add 0))) rfl rfl (r_fieldAddr (v1 := .pointer (some p34)) rfl rfl (fld26_0 _ _)) ?_
        obtain ⟨x36, hx37, H'⟩ := at_ldc H
        replace H := H'; clear H'
        refine stp (v := Sl.v x36) rfl rfl (r_load (v1 := .pointer (some (p34.add 0))) rfl rfl (ld1 Try.underlying23 rfl (hx37 _ (Below.refl _ _)))) ?_
        refine stp (v := .int .i64 a1) rfl rfl (r_move rfl rfl) ?_
        obtain ⟨p38, p39, he, h0, h1, hpa, H'⟩ := at_idx' H
        replace H := H'; clear H'
        refine stp (v := .pointer (some p39)) rfl rfl (r_indexAddr (v1 := Sl.v x36) (v2 := .int .i64 a1) rfl rfl rfl (ix' Try.underlying23 sz70 he h0 h1 hpa)) ?_
        clear he h0 h1 hpa
        refine stp (v := .pointer (some (p39.add 0))) rfl rfl (r_fieldAddr (v1 := .pointer (some p39)) rfl rfl (fld70_0 _ _)) ?_
        obtain ⟨x40, hx41, H'⟩ := at_ldc H
        replace H := H'; clear H'
        refine stp (v := .int .i64 x40) rfl rfl (r_load (v1 := .pointer (some (p39.add 0))) rfl rfl (ld1 Try.underlying3 rfl (hx41 _ (Below.refl _ _)))) ?_
        refine stp (v := .bool (x40 == 1)) rfl rfl (r_eql (a := x40) (b := 1) rfl rfl rfl) ?_
        refine stp (v := .bool (x40 == 1)) rfl rfl (r_assign rfl rfl) ?_
        refine fin ?_
        refine n31 _ _ ?_
        refine c_cond (b := x40 == 1) rfl (fun hb42 => ?_) (fun hb42 => ?_)
        · replace H := at_itet hb42 H
          refine c_seq (fun Q45 n43 o44 => ?_)
          refine c_region ?_
          refine stp (v := .int .i64 a1) rfl rfl (r_move rfl rfl) ?_
          refine stp (v := .int .i64 a1) rfl rfl (r_assign rfl rfl) ?_
          refine fin ?_
          refine n43 _ _ ?_
          refine c_ret (o8 _ _ _ nofun (by simp) (o5 _ _ _ nofun ((done (vs := [.int .i64 a1]) (.tmp rfl .nil) rfl ⟨_, rfl, H.now⟩))))
        · replace H := at_itef hb42 H
          refine c_skip ?_
          refine n7 _ _ ?_
          refine n4 _ _ ?_
          refine c_seq (fun Q48 n46 o47 => ?_)
          refine c_region ?_
          refine stp (v := .pointer a0) rfl rfl (r_move rfl rfl) ?_
          obtain ⟨p49, hp50, H'⟩ := at_nn H
          replace H := H'; clear H'
          refine stp (v := .pointer (some p49)) rfl rfl (r_nn rfl (congrArg Value.pointer hp50)) ?_
          refine stp (v := .pointer (some (p49.add 0))) rfl rfl (r_fieldAddr (v1 := .pointer (some p49)) rfl rfl (fld26_0 _ _)) ?_
          obtain ⟨x51, hx52, H'⟩ := at_ldc H
          replace H := H'; clear H'
          refine stp (v := Sl.v x51) rfl rfl (r_load (v1 := .pointer (some (p49.add 0))) rfl rfl (ld1 Try.underlying23 rfl (hx52 _ (Below.refl _ _)))) ?_
          refine stp (v := .int .i64 a1) rfl rfl (r_move rfl rfl) ?_
          obtain ⟨p53, p54, he, h0, h1, hpa, H'⟩ := at_idx' H
          replace H := H'; clear H'
          refine stp (v := .pointer (some p54)) rfl rfl (r_indexAddr (v1 := Sl.v x51) (v2 := .int .i64 a1) rfl rfl rfl (ix' Try.underlying23 sz70 he h0 h1 hpa)) ?_
          clear he h0 h1 hpa
          obtain ⟨x55_0, hx56, H'⟩ := at_ldc H
          replace H := H'; clear H'
          obtain ⟨x55_1, hx57, H'⟩ := at_ldc H
          replace H := H'; clear H'
          obtain ⟨x55_2, hx58, H'⟩ := at_ldc H
          replace H := H'; clear H'
          refine stp (v := .agg #[.int .i64 x55_0, .string x55_1, Sl.v x55_2]) rfl rfl (r_load (v1 := .pointer (some p54)) rfl rfl (ldn (cs := [.int .i64 x55_0, .string x55_1, Sl.v x55_2]) Try.underlying70 rfl sz70 (cells_start (cells_cons (m := 0) (hx56 _ (Below.refl _ _)) (cells_cons (m := 1) (hx57 _ (Below.refl _ _)) (cells_cons (m := 2) (hx58 _ (Below.refl _ _)) cells_nil)))))) ?_
          obtain ⟨w59, N, g60, hw, hg, B, H⟩ := B.new H 70 #[.int .i64 0, .string (⟨#[]⟩ : ByteArray), Sl.v Sl.nil]
          refine stp (v := .pointer (some ⟨g60, 0, none⟩)) (w' := w59) rfl rfl (r_alloc rfl (alloc_run (al70 _) hw hg)) ?_
          clear hw hg
          obtain ⟨w2, hr, B, H⟩ := B.stn H (i := 0) (T := 70) (cs' := #[.int .i64 x55_0, .string x55_1, Sl.v x55_2]) (ad := ⟨g60, 0, none⟩) rfl rfl rfl rfl sz70
          refine stp0 rfl rfl (r_store (v1 := .pointer (some ⟨g60, 0, none⟩)) (v2 := .agg #[.int .i64 x55_0, .string x55_1, Sl.v x55_2]) rfl rfl rfl hr) ?_
          replace B : Bx _ _ [⟨g60, 70, #[.int .i64 x55_0, .string x55_1, Sl.v x55_2]⟩] := B
          clear hr
          refine fin ?_
          refine n46 _ _ ?_
          refine c_seq (fun Q63 n61 o62 => ?_)
          refine c_region ?_
          refine stp (v := .pointer a0) rfl rfl (r_move rfl rfl) ?_
          obtain ⟨p64, hp65, H'⟩ := at_nn H
          replace H := H'; clear H'
          refine stp (v := .pointer (some p64)) rfl rfl (r_nn rfl (congrArg Value.pointer hp65)) ?_
          refine stp (v := .pointer (some (p64.add 0))) rfl rfl (r_fieldAddr (v1 := .pointer (some p64)) rfl rfl (fld26_0 _ _)) ?_
          obtain ⟨x66, hx67, H'⟩ := at_ldc H
          replace H := H'; clear H'
          refine stp (v := Sl.v x66) rfl rfl (r_load (v1 := .pointer (some (p64.add 0))) rfl rfl (ld1 Try.underlying23 rfl (hx67 _ (Below.refl _ _)))) ?_
          refine stp (v := .int .i64 a1) rfl rfl (r_move rfl rfl) ?_
          obtain ⟨p68, p69, he, h0, h1, hpa, H'⟩ := at_idx' H
          replace H := H'; clear H'
          refine stp (v := .pointer (some p69)) rfl rfl (r_indexAddr (v1 := Sl.v x66) (v2 := .int .i64 a1) rfl rfl rfl (ix' Try.underlying23 sz70 he h0 h1 hpa)) ?_
          clear he h0 h1 hpa
          refine stp (v := .pointer (some (p69.add 0))) rfl rfl (r_fieldAddr (v1 := .pointer (some p69)) rfl rfl (fld70_0 _ _)) ?_
          obtain ⟨x70, hx71, H'⟩ := at_ldc H
          replace H := H'; clear H'
          refine stp (v := .int .i64 x70) rfl rfl (r_load (v1 := .pointer (some (p69.add 0))) rfl rfl (ld1 Try.underlying3 rfl (hx71 _ (Below.refl _ _)))) ?_
          refine stp (v := .int .i64 (IntKind.i64.wrap (x70 - 1))) rfl rfl (r_sub (a := x70) (b := 1) rfl rfl rfl) ?_
          obtain ⟨p72, p73, he, h0, h1, hpa, H'⟩ := at_idx' H
          replace H := H'; clear H'
          refine stp (v := .pointer (some p73)) rfl rfl (r_indexAddr (v1 := Sl.v x66) (v2 := .int .i64 a1) rfl rfl rfl (ix' Try.underlying23 sz70 he h0 h1 hpa)) ?_
          clear he h0 h1 hpa
          refine stp (v := .pointer (some (p73.add 0))) rfl rfl (r_fieldAddr (v1 := .pointer (some p73)) rfl rfl (fld70_0 _ _)) ?_
          obtain ⟨hc74, hf75, B', H'⟩ := at_stc B H
          replace B := B'; clear B'
          replace H := H'; clear H'
          refine stp0 rfl rfl (r_store (v1 := .pointer (some (p73.add 0))) (v2 := .int .i64 (IntKind.i64.wrap (x70 - 1))) rfl rfl rfl (st1 rfl sz3 hc74 hf75)) ?_
          refine fin ?_
          refine n61 _ _ ?_
          refine c_seq (fun Q78 n76 o77 => ?_)
          refine c_region ?_
          refine stp (v := .pointer (some ⟨g60, 2, none⟩)) rfl rfl (r_fieldAddr (v1 := .pointer (some ⟨g60, 0, none⟩)) rfl rfl (fld70_2 _ _)) ?_
          refine stp (v := Sl.v x55_2) rfl rfl (r_load (v1 := .pointer (some ⟨g60, 2, none⟩)) rfl rfl (ld1 Try.underlying24 rfl (bx1 (B.get 0 rfl) rfl rfl))) ?_
          refine stpc rfl rfl (r_call (vs := [Sl.v x55_2]) rfl rfl (ca51 _ _)) ?_
          refine at_call B H (fun y79 w B H => ?_)
          refine stp (v := .pointer (some ⟨g60, 2, none⟩)) rfl rfl (r_fieldAddr (v1 := .pointer (some ⟨g60, 0, none⟩)) rfl rfl (fld70_2 _ _)) ?_
          obtain ⟨w2, hr, B, H⟩ := B.st1 H (i := 0) (j := 2) (T := 24) (v := Sl.v y79) (ad := ⟨g60, 2, none⟩) rfl rfl rfl rfl sz24
          refine stp0 rfl rfl (r_store (v1 := .pointer (some ⟨g60, 2, none⟩)) (v2 := Sl.v y79) rfl rfl rfl hr) ?_
          replace B : Bx _ _ [⟨g60, 70, #[.int .i64 x55_0, .string x55_1, Sl.v y79]⟩] := B
          clear hr
          refine fin ?_
          refine n76 _ _ ?_
          refine c_seq (fun Q82 n80 o81 => ?_)
          refine c_seq (fun Q85 n83 o84 => ?_)
          refine c_region ?_
          refine stp (v := .pointer (some ⟨g60, 2, none⟩)) rfl rfl (r_fieldAddr (v1 := .pointer (some ⟨g60, 0, none⟩)) rfl rfl (fld70_2 _ _)) ?_
          refine stp (v := Sl.v y79) rfl rfl (r_load (v1 := .pointer (some ⟨g60, 2, none⟩)) rfl rfl (ld1 Try.underlying24 rfl (bx1 (B.get 0 rfl) rfl rfl))) ?_
          refine stp (v := .int .i64 (y79.n : Int)) rfl rfl (r_builtin (vs := [Sl.v y79]) rfl rfl (fun _ => lenl Try.underlying24)) ?_
          refine stp (v := .int .i64 0) rfl rfl (r_move rfl rfl) ?_
          refine fin ?_
          refine n83 _ _ ?_
          refine c_block (fun Q89 n86 x88 o87 => ?_)
          refine c_loop (σ := Int) (s0 := 0) (fun s => [(0, .pointer a0), (7, .pointer (some ⟨g60, 0, none⟩)), (62, Sl.v y79), (63, .int .i64 (y79.n : Int)), (64, .int .i64 s)]) (fun s => [⟨g60, 70, #[.int .i64 x55_0, .string x55_1, Sl.v y79]⟩]) B H rfl ?_
          rintro Q92 next93 s2_64 g w N nx90 o91 B H
          refine c_seq (fun Q96 n94 o95 => ?_)
          refine c_region ?_
          refine stp (v := .bool (decide (s2_64 < (y79.n : Int)))) rfl rfl (r_lss (a := s2_64) (b := (y79.n : Int)) rfl rfl rfl) ?_
          refine fin ?_
          refine n94 _ _ ?_
          refine c_seq (fun Q99 n97 o98 => ?_)
          refine c_cond (b := decide (s2_64 < (y79.n : Int))) rfl (fun hb100 => ?_) (fun hb100 => ?_)
          · replace H := at_itet hb100 H
            refine c_skip ?_
            refine n97 _ _ ?_
            refine c_seqj (fun a w => ∃ (g : Nat → Value) (N : NP), a = A 85 (updl g [(0, .pointer a0), (7, .pointer (some ⟨g60, 0, none⟩)), (62, Sl.v y79), (63, .int .i64 (y79.n : Int)), (64, .int .i64 s2_64)]) ∧ Bx w N [⟨g60, 70, #[.int .i64 x55_0, .string x55_1, Sl.v y79]⟩] ∧ Aft w N (f53_impl_Cow_own.J3 R (fun (z0 : Int) => next93 z0) s2_64 )) (fun Q103 n101 o102 => ?_) ?_
            ·
              refine c_block (fun Q107 n104 x106 o105 => ?_)
              refine c_seq (fun Q110 n108 o109 => ?_)
              refine c_region ?_
              obtain ⟨p111, p112, he, h0, h1, hpa, H'⟩ := at_idx' H
              replace H := H'; clear H'
              refine stp (v := .pointer (some p112)) rfl rfl (r_indexAddr (v1 := Sl.v y79) (v2 := .int .i64 s2_64) rfl rfl rfl (ix' Try.underlying24 sz3 he h0 h1 hpa)) ?_
              clear he h0 h1 hpa
              obtain ⟨x113, hx114, H'⟩ := at_ldc H
              replace H := H'; clear H'
              refine stp (v := .int .i64 x113) rfl rfl (r_load (v1 := .pointer (some p112)) rfl rfl (ld1 Try.underlying3 rfl (hx114 _ (Below.refl _ _)))) ?_
              refine stp (v := .int .i64 x113) rfl rfl (r_assign rfl rfl) ?_
              refine fin ?_
              refine n108 _ _ ?_
              refine c_seq (fun Q117 n115 o116 => ?_)
              refine c_region ?_
              refine stp (v := .int .i64 x113) rfl rfl (r_move rfl rfl) ?_
              refine stp (v := .bool (decide (0 ≤ x113))) rfl rfl (r_geq (a := x113) (b := 0) rfl rfl rfl) ?_
              refine fin ?_
              refine n115 _ _ ?_
              refine c_cond (b := decide (0 ≤ x113)) rfl (fun hb118 => ?_) (fun hb118 => ?_)
              · replace H := at_itet hb118 H
                refine c_region ?_
                refine stp (v := .pointer a0) rfl rfl (r_move rfl rfl) ?_
                obtain ⟨p119, hp120, H'⟩ := at_nn H
                replace H := H'; clear H'
                refine stp (v := .pointer (some p119)) rfl rfl (r_nn rfl (congrArg Value.pointer hp120)) ?_
                refine stp (v := .pointer (some (p119.add 0))) rfl rfl (r_fieldAddr (v1 := .pointer (some p119)) rfl rfl (fld26_0 _ _)) ?_
                obtain ⟨x121, hx122, H'⟩ := at_ldc H
                replace H := H'; clear H'
                refine stp (v := Sl.v x121) rfl rfl (r_load (v1 := .pointer (some (p119.add 0))) rfl rfl (ld1 Try.underlying23 rfl (hx122 _ (Below.refl _ _)))) ?_
                refine stp (v := .int .i64 x113) rfl rfl (r_move rfl rfl) ?_
                obtain ⟨p123, p124, he, h0, h1, hpa, H'⟩ := at_idx' H
                replace H := H'; clear H'
                refine stp (v := .pointer (some p124)) rfl rfl (r_indexAddr (v1 := Sl.v x121) (v2 := .int .i64 x113) rfl rfl rfl (ix' Try.underlying23 sz70 he h0 h1 hpa)) ?_
                clear he h0 h1 hpa
                refine stp (v := .pointer (some (p124.add 0))) rfl rfl (r_fieldAddr (v1 := .pointer (some p124)) rfl rfl (fld70_0 _ _)) ?_
                obtain ⟨x125, hx126, H'⟩ := at_ldc H
                replace H := H'; clear H'
                refine stp (v := .int .i64 x125) rfl rfl (r_load (v1 := .pointer (some (p124.add 0))) rfl rfl (ld1 Try.underlying3 rfl (hx126 _ (Below.refl _ _)))) ?_
                refine stp (v := .int .i64 (IntKind.i64.wrap (x125 + 1))) rfl rfl (r_add (a := x125) (b := 1) rfl rfl rfl) ?_
                obtain ⟨p127, p128, he, h0, h1, hpa, H'⟩ := at_idx' H
                replace H := H'; clear H'
                refine stp (v := .pointer (some p128)) rfl rfl (r_indexAddr (v1 := Sl.v x121) (v2 := .int .i64 x113) rfl rfl rfl (ix' Try.underlying23 sz70 he h0 h1 hpa)) ?_
                clear he h0 h1 hpa
                refine stp (v := .pointer (some (p128.add 0))) rfl rfl (r_fieldAddr (v1 := .pointer (some p128)) rfl rfl (fld70_0 _ _)) ?_
                obtain ⟨hc129, hf130, B', H'⟩ := at_stc B H
                replace B := B'; clear B'
                replace H := H'; clear H'
                refine stp0 rfl rfl (r_store (v1 := .pointer (some (p128.add 0))) (v2 := .int .i64 (IntKind.i64.wrap (x125 + 1))) rfl rfl rfl (st1 rfl sz3 hc129 hf130)) ?_
                refine fin ?_
                refine n104 _ _ ?_
                exact n101 _ _ ⟨_, _, fr_self rfl, B, H⟩
              · replace H := at_itef hb118 H
                refine c_skip ?_
                refine n104 _ _ ?_
                exact n101 _ _ ⟨_, _, fr_self rfl, B, H⟩
            ·
              rintro _ w ⟨g, N, rfl, B, H⟩
              refine c_region ?_
              refine stp (v := .int .i64 (IntKind.i64.wrap (s2_64 + 1))) rfl rfl (r_add (a := s2_64) (b := 1) rfl rfl rfl) ?_
              refine stp (v := .int .i64 (IntKind.i64.wrap (s2_64 + 1))) rfl rfl (r_move rfl rfl) ?_
              refine fin ?_
              exact nx90 (IntKind.i64.wrap (s2_64 + 1)) _ _ _ B H rfl
          · replace H := at_itef hb100 H
            refine c_exit (o98 _ _ _ nofun (o91 _ _ _ nofun (x88 _ _ ?_)))
            refine n80 _ _ ?_
            refine c_seq (fun Q133 n131 o132 => ?_)
            refine c_region ?_
            refine stp (v := .pointer a0) rfl rfl (r_move rfl rfl) ?_
            refine stp (v := .agg #[.int .i64 x55_0, .string x55_1, Sl.v y79]) rfl rfl (r_load (v1 := .pointer (some ⟨g60, 0, none⟩)) rfl rfl (bxn (B.get 0 rfl) Try.underlying70 rfl sz70)) ?_
            refine stpc rfl rfl (r_call (vs := [.pointer a0, .agg #[.int .i64 x55_0, .string x55_1, Sl.v y79]]) rfl rfl (ca64 _ _)) ?_
            refine at_call B H (fun y134 w B H => ?_)
            refine stp (v := .int .i64 y134) rfl rfl (r_assign rfl rfl) ?_
            refine fin ?_
            refine n131 _ _ ?_
            refine c_ret ((done (vs := [.int .i64 y134]) (.tmp rfl .nil) rfl ⟨_, rfl, H.now⟩))
def f54_slices_Max_int_int.L2 (R : Value → World → Prop) (a0 : Sl) (s2_3 : Int) (s2_4 : Int) (next31 : (Int) → (Int) → Tm) : Tm :=
  T.ite (decide (s2_4 < (a0.n : Int))) (T.idx a0 s2_4 1 fun (p47 : Addr) => T.ldc p47 (Value.int .i64) fun (x48 : Int) => next31 (if s2_3 < x48 then x48 else s2_3) (IntKind.i64.wrap (s2_4 + 1))) (T.ret R (.int .i64 s2_3))
def f54_slices_Max_int_int.J1 (R : Value → World → Prop) (a0 : Sl) : Tm :=
  T.idx a0 0 1 fun (p15 : Addr) => T.ldc p15 (Value.int .i64) fun (x16 : Int) => T.loop (fun (s : Int × Int) next => f54_slices_Max_int_int.L2 R a0 s.1 s.2 (fun (z0 : Int) (z1 : Int) => next (z0, z1))) (x16, 1)
def f54_slices_Max_int_int.T (R : Value → World → Prop) (a0 : Sl) : Tm :=
  T.ite (decide ((a0.n : Int) < 1)) (T.ass False (T.ret R undef)) (f54_slices_Max_int_int.J1 R a0 )
set_option maxHeartbeats 4000000 in
set_option maxRecDepth 100000 in
theorem f54_slices_Max_int_int.ok (R : Value → World → Prop) (a0 : Sl) (w : World) (h : Aft w (fun _ => False) (f54_slices_Max_int_int.T R a0)) :
    Calls Try.prog 54 (List.toArray [Sl.v a0]) w fun e w' => ∃ v, e = .returned v ∧ R v w' := by
  refine enter 25 Try.func54 rfl rfl rfl ?_
  have B := Bx.nil w
  have H := h
  clear h
  refine c_seq (fun Q3 n1 o2 => ?_)
  refine c_region ?_
  refine stp (v := .int .i64 0) rfl rfl (r_assign rfl rfl) ?_
  refine fin ?_
  refine n1 _ _ ?_
  refine c_seqj (fun a w => ∃ (g : Nat → Value) (N : NP), a = A 25 (updl g [(0, Sl.v a0)]) ∧ Bx w N [] ∧ Aft w N (f54_slices_Max_int_int.J1 R a0 )) (fun Q6 n4 o5 => ?_) ?_
  ·
    refine c_seq (fun Q9 n7 o8 => ?_)
    refine c_region ?_
    refine stp (v := Sl.v a0) rfl rfl (r_move rfl rfl) ?_
    refine stp (v := .int .i64 (a0.n : Int)) rfl rfl (r_builtin (vs := [Sl.v a0]) rfl rfl (fun _ => lenl Try.underlying24)) ?_
    refine stp (v := .bool (decide ((a0.n : Int) < 1))) rfl rfl (r_lss (a := (a0.n : Int)) (b := 1) rfl rfl rfl) ?_
    refine fin ?_
    refine n7 _ _ ?_
    refine c_cond (b := decide ((a0.n : Int) < 1)) rfl (fun hb10 => ?_) (fun hb10 => ?_)
    · replace H := at_itet hb10 H
      refine c_region ?_
      exact (at_ass H).1.elim
    · replace H := at_itef hb10 H
      refine c_skip ?_
      exact n4 _ _ ⟨_, _, fr_self rfl, B, H⟩
  ·
    rintro _ w ⟨g, N, rfl, B, H⟩
    refine c_seq (fun Q13 n11 o12 => ?_)
    refine c_region ?_
    refine stp (v := Sl.v a0) rfl rfl (r_move rfl rfl) ?_
    obtain ⟨p14, p15, he, h0, h1, hpa, H'⟩ := at_idx' H
    replace H := H'; clear H'
    refine stp (v := .pointer (some p15)) rfl rfl (r_indexAddr (v1 := Sl.v a0) (v2 := .int .i64 0) rfl rfl rfl (ix' Try.underlying24 sz3 he h0 h1 hpa)) ?_
    clear he h0 h1 hpa
    obtain ⟨x16, hx17, H'⟩ := at_ldc H
    replace H := H'; clear H'
    refine stp (v := .int .i64 x16) rfl rfl (r_load (v1 := .pointer (some p15)) rfl rfl (ld1 Try.underlying3 rfl (hx17 _ (Below.refl _ _)))) ?_
    refine stp (v := .int .i64 x16) rfl rfl (r_assign rfl rfl) ?_
    refine fin ?_
    refine n11 _ _ ?_
    refine c_seq (fun Q20 n18 o19 => ?_)
    refine c_seq (fun Q23 n21 o22 => ?_)
    refine c_region ?_
    refine stp (v := .int .i64 1) rfl rfl (r_assign rfl rfl) ?_
    refine fin ?_
    refine n21 _ _ ?_
    refine c_block (fun Q27 n24 x26 o25 => ?_)
    refine c_loop (σ := Int × Int) (s0 := (x16, 1)) (fun s => [(0, Sl.v a0), (3, .int .i64 s.1), (4, .int .i64 s.2)]) (fun s => []) B H rfl ?_
    rintro Q30 next31 ⟨s2_3, s2_4⟩ g w N nx28 o29 B H
    refine c_seq (fun Q34 n32 o33 => ?_)
    refine c_seq (fun Q37 n35 o36 => ?_)
    refine c_region ?_
    refine stp (v := .int .i64 s2_4) rfl rfl (r_move rfl rfl) ?_
    refine stp (v := Sl.v a0) rfl rfl (r_move rfl rfl) ?_
    refine stp (v := .int .i64 (a0.n : Int)) rfl rfl (r_builtin (vs := [Sl.v a0]) rfl rfl (fun _ => lenl Try.underlying24)) ?_
    refine stp (v := .bool (decide (s2_4 < (a0.n : Int)))) rfl rfl (r_lss (a := s2_4) (b := (a0.n : Int)) rfl rfl rfl) ?_
    refine fin ?_
    refine n35 _ _ ?_
    refine c_cond (b := decide (s2_4 < (a0.n : Int))) rfl (fun hb38 => ?_) (fun hb38 => ?_)
    · replace H := at_itet hb38 H
      refine c_skip ?_
      refine n32 _ _ ?_
      refine c_seq (fun Q41 n39 o40 => ?_)
      refine c_block (fun Q45 n42 x44 o43 => ?_)
      refine c_region ?_
      refine stp (v := .int .i64 s2_3) rfl rfl (r_move rfl rfl) ?_
      refine stp (v := Sl.v a0) rfl rfl (r_move rfl rfl) ?_
      refine stp (v := .int .i64 s2_4) rfl rfl (r_move rfl rfl) ?_
      obtain ⟨p46, p47, he, h0, h1, hpa, H'⟩ := at_idx' H
      replace H := H'; clear H'
      refine stp (v := .pointer (some p47)) rfl rfl (r_indexAddr (v1 := Sl.v a0) (v2 := .int .i64 s2_4) rfl rfl rfl (ix' Try.underlying24 sz3 he h0 h1 hpa)) ?_
      clear he h0 h1 hpa
      obtain ⟨x48, hx49, H'⟩ := at_ldc H
      replace H := H'; clear H'
      refine stp (v := .int .i64 x48) rfl rfl (r_load (v1 := .pointer (some p47)) rfl rfl (ld1 Try.underlying3 rfl (hx49 _ (Below.refl _ _)))) ?_
      refine stp (v := .int .i64 (if s2_3 < x48 then x48 else s2_3)) rfl rfl (r_builtin (vs := [.int .i64 s2_3, .int .i64 x48]) rfl rfl (fun _ => max2 _ _ _)) ?_
      refine stp (v := .int .i64 (if s2_3 < x48 then x48 else s2_3)) rfl rfl (r_assign rfl rfl) ?_
      refine fin ?_
      refine n42 _ _ ?_
      refine n39 _ _ ?_
      refine c_region ?_
      refine stp (v := .int .i64 s2_4) rfl rfl (r_move rfl rfl) ?_
      refine stp (v := .int .i64 (IntKind.i64.wrap (s2_4 + 1))) rfl rfl (r_add (a := s2_4) (b := 1) rfl rfl rfl) ?_
      refine stp (v := .int .i64 (IntKind.i64.wrap (s2_4 + 1))) rfl rfl (r_assign rfl rfl) ?_
      refine fin ?_
      exact nx28 ⟨(if s2_3 < x48 then x48 else s2_3), IntKind.i64.wrap (s2_4 + 1)⟩ _ _ _ B H rfl
    · replace H := at_itef hb38 H
      refine c_exit (o33 _ _ _ nofun (o29 _ _ _ nofun (x26 _ _ ?_)))
      refine n18 _ _ ?_
      refine c_seq (fun Q52 n50 o51 => ?_)
      refine c_region ?_
      refine stp (v := .int .i64 s2_3) rfl rfl (r_move rfl rfl) ?_
      refine stp (v := .int .i64 s2_3) rfl rfl (r_assign rfl rfl) ?_
      refine fin ?_
      refine n50 _ _ ?_
      refine c_ret ((done (vs := [.int .i64 s2_3]) (.tmp rfl .nil) rfl ⟨_, rfl, H.now⟩))
def f55_spec_l14Size.L1 (R : Value → World → Prop) (s1_0 : Int) (s1_3 : Int) (next17 : (Int) → (Int) → Tm) : Tm :=
  T.ite (decide (1 < s1_0)) (next17 (IntKind.i64.wrap (s1_0 - 1)) (IntKind.i64.wrap (s1_3 * 4))) (T.ret R (.int .i64 s1_3))
def f55_spec_l14Size.T (R : Value → World → Prop) (a0 : Int) : Tm :=
  T.loop (fun (s : Int × Int) next => f55_spec_l14Size.L1 R  s.1 s.2 (fun (z0 : Int) (z1 : Int) => next (z0, z1))) (a0, 1)
set_option maxHeartbeats 4000000 in
set_option maxRecDepth 100000 in
theorem f55_spec_l14Size.ok (R : Value → World → Prop) (a0 : Int) (w : World) (h : Aft w (fun _ => False) (f55_spec_l14Size.T R a0)) :
    Calls Try.prog 55 (List.toArray [.int .i64 a0]) w fun e w' => ∃ v, e = .returned v ∧ R v w' := by
  refine enter 11 Try.func55 rfl rfl rfl ?_
  have B := Bx.nil w
  have H := h
  clear h
  refine c_seq (fun Q3 n1 o2 => ?_)
  refine c_region ?_
  refine stp (v := .int .i64 0) rfl rfl (r_assign rfl rfl) ?_
  refine fin ?_
  refine n1 _ _ ?_
  refine c_seq (fun Q6 n4 o5 => ?_)
  refine c_region ?_
  refine stp (v := .int .i64 1) rfl rfl (r_assign rfl rfl) ?_
  refine fin ?_
  refine n4 _ _ ?_
  refine c_seq (fun Q9 n7 o8 => ?_)
  refine c_block (fun Q13 n10 x12 o11 => ?_)
  refine c_loop (σ := Int × Int) (s0 := (a0, 1)) (fun s => [(0, .int .i64 s.1), (3, .int .i64 s.2)]) (fun s => []) B H rfl ?_
  rintro Q16 next17 ⟨s1_0, s1_3⟩ g w N nx14 o15 B H
  refine c_seq (fun Q20 n18 o19 => ?_)
  refine c_seq (fun Q23 n21 o22 => ?_)
  refine c_region ?_
  refine stp (v := .int .i64 s1_0) rfl rfl (r_move rfl rfl) ?_
  refine stp (v := .bool (decide (1 < s1_0))) rfl rfl (r_gtr (a := s1_0) (b := 1) rfl rfl rfl) ?_
  refine fin ?_
  refine n21 _ _ ?_
  refine c_cond (b := decide (1 < s1_0)) rfl (fun hb24 => ?_) (fun hb24 => ?_)
  · replace H := at_itet hb24 H
    refine c_skip ?_
    refine n18 _ _ ?_
    refine c_seq (fun Q27 n25 o26 => ?_)
    refine c_block (fun Q31 n28 x30 o29 => ?_)
    refine c_region ?_
    refine stp (v := .int .i64 s1_3) rfl rfl (r_move rfl rfl) ?_
    refine stp (v := .int .i64 (IntKind.i64.wrap (s1_3 * 4))) rfl rfl (r_mul (a := s1_3) (b := 4) rfl rfl rfl) ?_
    refine stp (v := .int .i64 (IntKind.i64.wrap (s1_3 * 4))) rfl rfl (r_assign rfl rfl) ?_
    refine fin ?_
    refine n28 _ _ ?_
    refine n25 _ _ ?_
    refine c_region ?_
    refine stp (v := .int .i64 s1_0) rfl rfl (r_move rfl rfl) ?_
    refine stp (v := .int .i64 (IntKind.i64.wrap (s1_0 - 1))) rfl rfl (r_sub (a := s1_0) (b := 1) rfl rfl rfl) ?_
    refine stp (v := .int .i64 (IntKind.i64.wrap (s1_0 - 1))) rfl rfl (r_assign rfl rfl) ?_
    refine fin ?_
    exact nx14 ⟨IntKind.i64.wrap (s1_0 - 1), IntKind.i64.wrap (s1_3 * 4)⟩ _ _ _ B H rfl
  · replace H := at_itef hb24 H
    refine c_exit (o19 _ _ _ nofun (o15 _ _ _ nofun (x12 _ _ ?_)))
    refine n7 _ _ ?_
    refine c_seq (fun Q34 n32 o33 => ?_)
    refine c_region ?_
    refine stp (v := .int .i64 s1_3) rfl rfl (r_move rfl rfl) ?_
    refine stp (v := .int .i64 s1_3) rfl rfl (r_assign rfl rfl) ?_
    refine fin ?_
    refine n32 _ _ ?_
    refine c_ret ((done (vs := [.int .i64 s1_3]) (.tmp rfl .nil) rfl ⟨_, rfl, H.now⟩))
def f56_spec_l14Ours.J5 (R : Value → World → Prop) (next82 : (Int) → Tm) (s4_59 : Int) : Tm :=
  next82 (IntKind.i64.wrap (s4_59 + 1))
def f56_spec_l14Ours.J3 (R : Value → World → Prop) (a0_0 : Sl) (a0_1 : Sl) (a0_2 : Int) (j3_b8_1 : ByteArray) (j3_b8_2 : Sl) : Tm :=
  T.call Try.prog 66 [.agg #[Sl.v a0_0, Sl.v a0_1, .int .i64 a0_2], .agg #[.int .i64 1, .string j3_b8_1, Sl.v j3_b8_2]] (fun (z : Sl × Sl × Int × Int) => .tuple #[.agg #[Sl.v z.1, Sl.v z.2.1, .int .i64 z.2.2.1], .int .i64 z.2.2.2]) fun (y119 : Sl × Sl × Int × Int) => T.ret R (.tuple #[.agg #[Sl.v y119.1, Sl.v y119.2.1, .int .i64 y119.2.2.1], .int .i64 y119.2.2.2])
def f56_spec_l14Ours.L4 (R : Value → World → Prop) (a0_0 : Sl) (a0_1 : Sl) (a0_2 : Int) (x49 : ByteArray) (y60 : Sl) (s4_59 : Int) (next82 : (Int) → Tm) : Tm :=
  T.ite (decide (s4_59 < (y60.n : Int))) (T.idx y60 s4_59 1 fun (p101 : Addr) => T.ldc p101 (Value.int .i64) fun (x102 : Int) => T.ite (decide (0 ≤ x102)) (T.idx a0_0 x102 3 fun (p109 : Addr) => T.ldc (p109.add 0) (Value.int .i64) fun (x110 : Int) => T.idx a0_0 x102 3 fun (p113 : Addr) => T.stc (p113.add 0) (.int .i64 (IntKind.i64.wrap (x110 + 1))) (f56_spec_l14Ours.J5 R next82 s4_59 )) (f56_spec_l14Ours.J5 R next82 s4_59 )) (f56_spec_l14Ours.J3 R a0_0 a0_1 a0_2 x49 y60)
def f56_spec_l14Ours.J2 (R : Value → World → Prop) (a0_0 : Sl) (a0_1 : Sl) (a0_2 : Int) (a1 : Int) (j2_b8_2 : Sl) : Tm :=
  T.ite (decide (0 ≤ a1)) (T.idx a0_0 a1 3 fun (p48 : Addr) => T.ldc (p48.add 1) Value.string fun (x49 : ByteArray) => T.new (.cells #[] 3) fun (g55 : Nat) => T.idx a0_0 a1 3 fun (p57 : Addr) => T.ldc (p57.add 2) Sl.v fun (x58 : Sl) => T.run Try.prog (Builtin.append_ #[24, 24] 24 #[Sl.v (⟨some ⟨g55, 0, none⟩, 0, 0⟩ : Sl), Sl.v x58]) Sl.v fun (y60 : Sl) => T.idx a0_0 a1 3 fun (p65 : Addr) => T.ldc (p65.add 0) (Value.int .i64) fun (x66 : Int) => T.idx a0_0 a1 3 fun (p69 : Addr) => T.stc (p69.add 0) (.int .i64 (IntKind.i64.wrap (x66 - 1))) (T.loop (fun (s : Int) next => f56_spec_l14Ours.L4 R a0_0 a0_1 a0_2 x49 y60 s (fun (z0 : Int) => next z0)) 0)) (f56_spec_l14Ours.J3 R a0_0 a0_1 a0_2 (⟨#[]⟩ : ByteArray) j2_b8_2)
def f56_spec_l14Ours.J1 (R : Value → World → Prop) (a0_0 : Sl) (a0_1 : Sl) (a0_2 : Int) (a1 : Int) (a2 : Int) (j1_21 : Bool) : Tm :=
  T.ite j1_21 (T.ret R (.tuple #[.agg #[Sl.v a0_0, Sl.v a0_1, .int .i64 a0_2], .int .i64 a1])) (T.ite (decide (1 < a2)) (T.new (.cells #[.int .i64 (-1), .int .i64 (-1), .int .i64 (-1), .int .i64 (-1)] 3) fun (g36 : Nat) => f56_spec_l14Ours.J2 R a0_0 a0_1 a0_2 a1 (⟨some ⟨g36, 0, none⟩, 4, 4⟩ : Sl)) (f56_spec_l14Ours.J2 R a0_0 a0_1 a0_2 a1 Sl.nil))
def f56_spec_l14Ours.T (R : Value → World → Prop) (a0_0 : Sl) (a0_1 : Sl) (a0_2 : Int) (a1 : Int) (a2 : Int) : Tm :=
  T.ite (decide (0 ≤ a1)) (T.idx a0_0 a1 3 fun (p16 : Addr) => T.ldc (p16.add 0) (Value.int .i64) fun (x17 : Int) => f56_spec_l14Ours.J1 R a0_0 a0_1 a0_2 a1 a2 (x17 == 1)) (f56_spec_l14Ours.J1 R a0_0 a0_1 a0_2 a1 a2 false)
set_option maxHeartbeats 4000000 in
set_option maxRecDepth 100000 in
theorem f56_spec_l14Ours.ok (R : Value → World → Prop) (a0_0 : Sl) (a0_1 : Sl) (a0_2 : Int) (a1 : Int) (a2 : Int) (w : World) (h : Aft w (fun _ => False) (f56_spec_l14Ours.T R a0_0 a0_1 a0_2 a1 a2)) :
    Calls Try.prog 56 (List.toArray [.agg #[Sl.v a0_0, Sl.v a0_1, .int .i64 a0_2], .int .i64 a1, .int .i64 a2]) w fun e w' => ∃ v, e = .returned v ∧ R v w' := by
  refine enter 80 Try.func56 rfl rfl rfl ?_
  have B := Bx.nil w
  have H := h
  clear h
  refine c_seq (fun Q3 n1 o2 => ?_)
  refine c_region ?_
  obtain ⟨w4, N, g5, hw, hg, B, H⟩ := B.new H 26 #[Sl.v a0_0, Sl.v a0_1, .int .i64 a0_2]
  refine stp (v := .pointer (some ⟨g5, 0, none⟩)) (w' := w4) rfl rfl (r_box (v1 := .agg #[Sl.v a0_0, Sl.v a0_1, .int .i64 a0_2]) rfl rfl (box_run rfl hw hg)) ?_
  clear hw hg
  obtain ⟨w6, N, g7, hw, hg, B, H⟩ := B.new H 26 #[Sl.v Sl.nil, Sl.v Sl.nil, .int .i64 0]
  refine stp (v := .pointer (some ⟨g7, 0, none⟩)) (w' := w6) rfl rfl (r_alloc rfl (alloc_run (al26 _) hw hg)) ?_
  clear hw hg
  refine stp (v := .int .i64 0) rfl rfl (r_assign rfl rfl) ?_
  refine fin ?_
  refine n1 _ _ ?_
  refine c_seq (fun Q10 n8 o9 => ?_)
  refine c_seqj (fun a w => ∃ (j1_21 : Bool) (g : Nat → Value) (N : NP), a = A 80 (updl g [(1, .int .i64 a1), (2, .int .i64 a2), (3, .pointer (some ⟨g5, 0, none⟩)), (6, .pointer (some ⟨g7, 0, none⟩)), (21, .bool j1_21)]) ∧ Bx w N [⟨g7, 26, #[Sl.v Sl.nil, Sl.v Sl.nil, .int .i64 0]⟩, ⟨g5, 26, #[Sl.v a0_0, Sl.v a0_1, .int .i64 a0_2]⟩] ∧ Aft w N (f56_spec_l14Ours.J1 R a0_0 a0_1 a0_2 a1 a2 j1_21)) (fun Q13 n11 o12 => ?_) ?_
  ·
    refine c_region ?_
    refine stp (v := .int .i64 a1) rfl rfl (r_move rfl rfl) ?_
    refine stp (v := .bool (decide (0 ≤ a1))) rfl rfl (r_geq (a := a1) (b := 0) rfl rfl rfl) ?_
    refine stp (v := .bool (decide (0 ≤ a1))) rfl rfl (r_move rfl rfl) ?_
    rcases Bool.eq_false_or_eq_true (decide (0 ≤ a1)) with hb14 | hb14
    · replace H := at_itet hb14 H
      refine stp (v := .pointer (some ⟨g5, 0, none⟩)) (wn rfl rfl rfl rfl (congrArg Value.bool hb14)) rfl (r_fieldAddr (v1 := .pointer (some ⟨g5, 0, none⟩)) rfl rfl (fld26_0 _ _)) ?_
      refine stp (v := Sl.v a0_0) (wn rfl rfl rfl rfl (congrArg Value.bool hb14)) rfl (r_load (v1 := .pointer (some ⟨g5, 0, none⟩)) rfl rfl (ld1 Try.underlying23 rfl (bx1 (B.get 1 rfl) rfl rfl))) ?_
      refine stp (v := .int .i64 a1) (wn rfl rfl rfl rfl (congrArg Value.bool hb14)) rfl (r_move rfl rfl) ?_
      obtain ⟨p15, p16, he, h0, h1, hpa, H'⟩ := at_idx' H
      replace H := H'; clear H'
      refine stp (v := .pointer (some p16)) (wn rfl rfl rfl rfl (congrArg Value.bool hb14)) rfl (r_indexAddr (v1 := Sl.v a0_0) (v2 := .int .i64 a1) rfl rfl rfl (ix' Try.underlying23 sz70 he h0 h1 hpa)) ?_
      clear he h0 h1 hpa
      refine stp (v := .pointer (some (p16.add 0))) (wn rfl rfl rfl rfl (congrArg Value.bool hb14)) rfl (r_fieldAddr (v1 := .pointer (some p16)) rfl rfl (fld70_0 _ _)) ?_
      obtain ⟨x17, hx18, H'⟩ := at_ldc H
      replace H := H'; clear H'
      refine stp (v := .int .i64 x17) (wn rfl rfl rfl rfl (congrArg Value.bool hb14)) rfl (r_load (v1 := .pointer (some (p16.add 0))) rfl rfl (ld1 Try.underlying3 rfl (hx18 _ (Below.refl _ _)))) ?_
      refine stp (v := .bool (x17 == 1)) (wn rfl rfl rfl rfl (congrArg Value.bool hb14)) rfl (r_eql (a := x17) (b := 1) rfl rfl rfl) ?_
      refine stp (v := .bool (x17 == 1)) rfl rfl (r_pickt rfl (congrArg Value.bool hb14) rfl) ?_
      refine fin ?_
      exact n11 _ _ ⟨x17 == 1, _, _, fr_self rfl, B, H⟩
    · replace H := at_itef hb14 H
      refine skp (un rfl rfl rfl rfl (congrArg Value.bool hb14) nofun) rfl ?_
      refine skp (un rfl rfl rfl rfl (congrArg Value.bool hb14) nofun) rfl ?_
      refine skp (un rfl rfl rfl rfl (congrArg Value.bool hb14) nofun) rfl ?_
      refine skp (un rfl rfl rfl rfl (congrArg Value.bool hb14) nofun) rfl ?_
      refine skp (un rfl rfl rfl rfl (congrArg Value.bool hb14) nofun) rfl ?_
      refine skp (un rfl rfl rfl rfl (congrArg Value.bool hb14) nofun) rfl ?_
      refine skp (un rfl rfl rfl rfl (congrArg Value.bool hb14) nofun) rfl ?_
      refine stp (v := .bool false) rfl rfl (r_pickf rfl (congrArg Value.bool hb14) rfl) ?_
      refine fin ?_
      exact n11 _ _ ⟨false, _, _, fr_self rfl, B, H⟩
  ·
    rintro _ w ⟨j1_21, g, N, rfl, B, H⟩
    refine c_cond (b := j1_21) rfl (fun hb19 => ?_) (fun hb19 => ?_)
    · replace H := at_itet hb19 H
      refine c_seq (fun Q22 n20 o21 => ?_)
      refine c_region ?_
      refine stp (v := .agg #[Sl.v a0_0, Sl.v a0_1, .int .i64 a0_2]) rfl rfl (r_load (v1 := .pointer (some ⟨g5, 0, none⟩)) rfl rfl (bxn (B.get 1 rfl) Try.underlying26 rfl sz26)) ?_
      refine stp (v := .int .i64 a1) rfl rfl (r_move rfl rfl) ?_
      obtain ⟨w2, hr, B, H⟩ := B.stn H (i := 0) (T := 26) (cs' := #[Sl.v a0_0, Sl.v a0_1, .int .i64 a0_2]) (ad := ⟨g7, 0, none⟩) rfl rfl rfl rfl sz26
      refine stp0 rfl rfl (r_store (v1 := .pointer (some ⟨g7, 0, none⟩)) (v2 := .agg #[Sl.v a0_0, Sl.v a0_1, .int .i64 a0_2]) rfl rfl rfl hr) ?_
      replace B : Bx _ _ [⟨g7, 26, #[Sl.v a0_0, Sl.v a0_1, .int .i64 a0_2]⟩, ⟨g5, 26, #[Sl.v a0_0, Sl.v a0_1, .int .i64 a0_2]⟩] := B
      clear hr
      refine stp (v := .int .i64 a1) rfl rfl (r_assign rfl rfl) ?_
      refine fin ?_
      refine n20 _ _ ?_
      refine c_ret (o9 _ _ _ nofun ((done (vs := [.agg #[Sl.v a0_0, Sl.v a0_1, .int .i64 a0_2], .int .i64 a1]) (.cell rfl (bxn (B.get 0 rfl) Try.underlying26 rfl sz26) (.tmp rfl .nil)) rfl ⟨_, rfl, H.now⟩)))
    · replace H := at_itef hb19 H
      refine c_skip ?_
      refine n8 _ _ ?_
      refine c_seq (fun Q25 n23 o24 => ?_)
      refine c_region ?_
      refine stp (v := .agg #[.int .i64 1, .string (⟨#[]⟩ : ByteArray), Sl.v Sl.nil]) rfl rfl (r_build (qs := [(0, .int .i64 1)]) rfl rfl (site12 1 _)) ?_
      obtain ⟨w26, N, g27, hw, hg, B, H⟩ := B.new H 70 #[.int .i64 0, .string (⟨#[]⟩ : ByteArray), Sl.v Sl.nil]
      refine stp (v := .pointer (some ⟨g27, 0, none⟩)) (w' := w26) rfl rfl (r_alloc rfl (alloc_run (al70 _) hw hg)) ?_
      clear hw hg
      obtain ⟨w2, hr, B, H⟩ := B.stn H (i := 0) (T := 70) (cs' := #[.int .i64 1, .string (⟨#[]⟩ : ByteArray), Sl.v Sl.nil]) (ad := ⟨g27, 0, none⟩) rfl rfl rfl rfl sz70
      refine stp0 rfl rfl (r_store (v1 := .pointer (some ⟨g27, 0, none⟩)) (v2 := .agg #[.int .i64 1, .string (⟨#[]⟩ : ByteArray), Sl.v Sl.nil]) rfl rfl rfl hr) ?_
      replace B : Bx _ _ [⟨g27, 70, #[.int .i64 1, .string (⟨#[]⟩ : ByteArray), Sl.v Sl.nil]⟩, ⟨g7, 26, #[Sl.v Sl.nil, Sl.v Sl.nil, .int .i64 0]⟩, ⟨g5, 26, #[Sl.v a0_0, Sl.v a0_1, .int .i64 a0_2]⟩] := B
      clear hr
      refine fin ?_
      refine n23 _ _ ?_
      refine c_seqj (fun a w => ∃ (j2_b8_2 : Sl) (g : Nat → Value) (N : NP), a = A 80 (updl g [(1, .int .i64 a1), (3, .pointer (some ⟨g5, 0, none⟩)), (6, .pointer (some ⟨g7, 0, none⟩)), (8, .pointer (some ⟨g27, 0, none⟩))]) ∧ Bx w N [⟨g27, 70, #[.int .i64 1, .string (⟨#[]⟩ : ByteArray), Sl.v j2_b8_2]⟩, ⟨g7, 26, #[Sl.v Sl.nil, Sl.v Sl.nil, .int .i64 0]⟩, ⟨g5, 26, #[Sl.v a0_0, Sl.v a0_1, .int .i64 a0_2]⟩] ∧ Aft w N (f56_spec_l14Ours.J2 R a0_0 a0_1 a0_2 a1 j2_b8_2)) (fun Q30 n28 o29 => ?_) ?_
      ·
        refine c_seq (fun Q33 n31 o32 => ?_)
        refine c_region ?_
        refine stp (v := .int .i64 a2) rfl rfl (r_move rfl rfl) ?_
        refine stp (v := .bool (decide (1 < a2))) rfl rfl (r_gtr (a := a2) (b := 1) rfl rfl rfl) ?_
        refine fin ?_
        refine n31 _ _ ?_
        refine c_cond (b := decide (1 < a2)) rfl (fun hb34 => ?_) (fun hb34 => ?_)
        · replace H := at_itet hb34 H
          refine c_region ?_
          obtain ⟨w35, g36, hw, hg, B, H⟩ := at_new' B H
          refine stp (v := Sl.v (⟨some ⟨g36, 0, none⟩, 4, 4⟩ : Sl)) (w' := w35) rfl rfl (r_buildSlice (qs := [(0, .int .i64 (-1)), (1, .int .i64 (-1)), (2, .int .i64 (-1)), (3, .int .i64 (-1))]) rfl rfl (bs_run (site13 (-1) (-1) (-1) (-1) _) hw hg)) ?_
          clear hw hg
          refine stp (v := .pointer (some ⟨g27, 2, none⟩)) rfl rfl (r_fieldAddr (v1 := .pointer (some ⟨g27, 0, none⟩)) rfl rfl (fld70_2 _ _)) ?_
          obtain ⟨w2, hr, B, H⟩ := B.st1 H (i := 0) (j := 2) (T := 24) (v := Sl.v (⟨some ⟨g36, 0, none⟩, 4, 4⟩ : Sl)) (ad := ⟨g27, 2, none⟩) rfl rfl rfl rfl sz24
          refine stp0 rfl rfl (r_store (v1 := .pointer (some ⟨g27, 2, none⟩)) (v2 := Sl.v (⟨some ⟨g36, 0, none⟩, 4, 4⟩ : Sl)) rfl rfl rfl hr) ?_
          replace B : Bx _ _ [⟨g27, 70, #[.int .i64 1, .string (⟨#[]⟩ : ByteArray), Sl.v (⟨some ⟨g36, 0, none⟩, 4, 4⟩ : Sl)]⟩, ⟨g7, 26, #[Sl.v Sl.nil, Sl.v Sl.nil, .int .i64 0]⟩, ⟨g5, 26, #[Sl.v a0_0, Sl.v a0_1, .int .i64 a0_2]⟩] := B
          clear hr
          refine fin ?_
          exact n28 _ _ ⟨(⟨some ⟨g36, 0, none⟩, 4, 4⟩ : Sl), _, _, fr_self rfl, B, H⟩
        · replace H := at_itef hb34 H
          refine c_skip ?_
          exact n28 _ _ ⟨Sl.nil, _, _, fr_self rfl, B, H⟩
      ·
        rintro _ w ⟨j2_b8_2, g, N, rfl, B, H⟩
        refine c_seqj (fun a w => ∃ (j3_b8_1 : ByteArray) (j3_b8_2 : Sl) (g : Nat → Value) (N : NP), a = A 80 (updl g [(3, .pointer (some ⟨g5, 0, none⟩)), (6, .pointer (some ⟨g7, 0, none⟩)), (8, .pointer (some ⟨g27, 0, none⟩))]) ∧ Bx w N [⟨g27, 70, #[.int .i64 1, .string j3_b8_1, Sl.v j3_b8_2]⟩, ⟨g7, 26, #[Sl.v Sl.nil, Sl.v Sl.nil, .int .i64 0]⟩, ⟨g5, 26, #[Sl.v a0_0, Sl.v a0_1, .int .i64 a0_2]⟩] ∧ Aft w N (f56_spec_l14Ours.J3 R a0_0 a0_1 a0_2 j3_b8_1 j3_b8_2)) (fun Q39 n37 o38 => ?_) ?_
        ·
          refine c_seq (fun Q42 n40 o41 => ?_)
          refine c_region ?_
          refine stp (v := .int .i64 a1) rfl rfl (r_move rfl rfl) ?_
          refine stp (v := .bool (decide (0 ≤ a1))) rfl rfl (r_geq (a := a1) (b := 0) rfl rfl rfl) ?_
          refine fin ?_
          refine n40 _ _ ?_
          refine c_cond (b := decide (0 ≤ a1)) rfl (fun hb43 => ?_) (fun hb43 => ?_)
          · replace H := at_itet hb43 H
            refine c_seq (fun Q46 n44 o45 => ?_)
            refine c_region ?_
            refine stp (v := .pointer (some ⟨g5, 0, none⟩)) rfl rfl (r_fieldAddr (v1 := .pointer (some ⟨g5, 0, none⟩)) rfl rfl (fld26_0 _ _)) ?_
            refine stp (v := Sl.v a0_0) rfl rfl (r_load (v1 := .pointer (some ⟨g5, 0, none⟩)) rfl rfl (ld1 Try.underlying23 rfl (bx1 (B.get 2 rfl) rfl rfl))) ?_
            refine stp (v := .int .i64 a1) rfl rfl (r_move rfl rfl) ?_
            obtain ⟨p47, p48, he, h0, h1, hpa, H'⟩ := at_idx' H
            replace H := H'; clear H'
            refine stp (v := .pointer (some p48)) rfl rfl (r_indexAddr (v1 := Sl.v a0_0) (v2 := .int .i64 a1) rfl rfl rfl (ix' Try.underlying23 sz70 he h0 h1 hpa)) ?_
            clear he h0 h1 hpa
            refine stp (v := .pointer (some (p48.add 1))) rfl rfl (r_fieldAddr (v1 := .pointer (some p48)) rfl rfl (fld70_1 _ _)) ?_
            obtain ⟨x49, hx50, H'⟩ := at_ldc H
            replace H := H'; clear H'
            refine stp (v := .string x49) rfl rfl (r_load (v1 := .pointer (some (p48.add 1))) rfl rfl (ld1 Try.underlying9 rfl (hx50 _ (Below.refl _ _)))) ?_
            refine stp (v := .pointer (some ⟨g27, 1, none⟩)) rfl rfl (r_fieldAddr (v1 := .pointer (some ⟨g27, 0, none⟩)) rfl rfl (fld70_1 _ _)) ?_
            obtain ⟨w2, hr, B, H⟩ := B.st1 H (i := 0) (j := 1) (T := 9) (v := .string x49) (ad := ⟨g27, 1, none⟩) rfl rfl rfl rfl sz9
            refine stp0 rfl rfl (r_store (v1 := .pointer (some ⟨g27, 1, none⟩)) (v2 := .string x49) rfl rfl rfl hr) ?_
            replace B : Bx _ _ [⟨g27, 70, #[.int .i64 1, .string x49, Sl.v j2_b8_2]⟩, ⟨g7, 26, #[Sl.v Sl.nil, Sl.v Sl.nil, .int .i64 0]⟩, ⟨g5, 26, #[Sl.v a0_0, Sl.v a0_1, .int .i64 a0_2]⟩] := B
            clear hr
            refine fin ?_
            refine n44 _ _ ?_
            refine c_seq (fun Q53 n51 o52 => ?_)
            refine c_region ?_
            obtain ⟨w54, g55, hw, hg, B, H⟩ := at_new' B H
            refine stp (v := Sl.v (⟨some ⟨g55, 0, none⟩, 0, 0⟩ : Sl)) (w' := w54) rfl rfl (r_buildSlice (qs := []) rfl rfl (bs_run (site3  _) hw hg)) ?_
            clear hw hg
            refine stp (v := .pointer (some ⟨g5, 0, none⟩)) rfl rfl (r_fieldAddr (v1 := .pointer (some ⟨g5, 0, none⟩)) rfl rfl (fld26_0 _ _)) ?_
            refine stp (v := Sl.v a0_0) rfl rfl (r_load (v1 := .pointer (some ⟨g5, 0, none⟩)) rfl rfl (ld1 Try.underlying23 rfl (bx1 (B.get 2 rfl) rfl rfl))) ?_
            refine stp (v := .int .i64 a1) rfl rfl (r_move rfl rfl) ?_
            obtain ⟨p56, p57, he, h0, h1, hpa, H'⟩ := at_idx' H
            replace H := H'; clear H'
            refine stp (v := .pointer (some p57)) rfl rfl (r_indexAddr (v1 := Sl.v a0_0) (v2 := .int .i64 a1) rfl rfl rfl (ix' Try.underlying23 sz70 he h0 h1 hpa)) ?_
            clear he h0 h1 hpa
            refine stp (v := .pointer (some (p57.add 2))) rfl rfl (r_fieldAddr (v1 := .pointer (some p57)) rfl rfl (fld70_2 _ _)) ?_
            obtain ⟨x58, hx59, H'⟩ := at_ldc H
            replace H := H'; clear H'
            refine stp (v := Sl.v x58) rfl rfl (r_load (v1 := .pointer (some (p57.add 2))) rfl rfl (ld1 Try.underlying24 rfl (hx59 _ (Below.refl _ _)))) ?_
            obtain ⟨y60, w2, hr, B, H⟩ := at_run B H
            refine stp (v := Sl.v y60) rfl rfl (r_builtin (vs := [Sl.v (⟨some ⟨g55, 0, none⟩, 0, 0⟩ : Sl), Sl.v x58]) rfl rfl (fun _ => bi_append hr)) ?_
            clear hr
            refine stp (v := .pointer (some ⟨g27, 2, none⟩)) rfl rfl (r_fieldAddr (v1 := .pointer (some ⟨g27, 0, none⟩)) rfl rfl (fld70_2 _ _)) ?_
            obtain ⟨w2, hr, B, H⟩ := B.st1 H (i := 0) (j := 2) (T := 24) (v := Sl.v y60) (ad := ⟨g27, 2, none⟩) rfl rfl rfl rfl sz24
            refine stp0 rfl rfl (r_store (v1 := .pointer (some ⟨g27, 2, none⟩)) (v2 := Sl.v y60) rfl rfl rfl hr) ?_
            replace B : Bx _ _ [⟨g27, 70, #[.int .i64 1, .string x49, Sl.v y60]⟩, ⟨g7, 26, #[Sl.v Sl.nil, Sl.v Sl.nil, .int .i64 0]⟩, ⟨g5, 26, #[Sl.v a0_0, Sl.v a0_1, .int .i64 a0_2]⟩] := B
            clear hr
            refine fin ?_
            refine n51 _ _ ?_
            refine c_seq (fun Q63 n61 o62 => ?_)
            refine c_region ?_
            refine stp (v := .pointer (some ⟨g5, 0, none⟩)) rfl rfl (r_fieldAddr (v1 := .pointer (some ⟨g5, 0, none⟩)) rfl rfl (fld26_0 _ _)) ?_
            refine stp (v := Sl.v a0_0) rfl rfl (r_load (v1 := .pointer (some ⟨g5, 0, none⟩)) rfl rfl (ld1 Try.underlying23 rfl (bx1 (B.get 2 rfl) rfl rfl))) ?_
            refine stp (v := .int .i64 a1) rfl rfl (r_move rfl rfl) ?_
            obtain ⟨p64, p65, he, h0, h1, hpa, H'⟩ := at_idx' H
            replace H := H'; clear H'
            refine stp (v := .pointer (some p65)) rfl rfl (r_indexAddr (v1 := Sl.v a0_0) (v2 := .int .i64 a1) rfl rfl rfl (ix' Try.underlying23 sz70 he h0 h1 hpa)) ?_
            clear he h0 h1 hpa
            refine stp (v := .pointer (some (p65.add 0))) rfl rfl (r_fieldAddr (v1 := .pointer (some p65)) rfl rfl (fld70_0 _ _)) ?_
            obtain ⟨x66, hx67, H'⟩ := at_ldc H
            replace H := H'; clear H'
            refine stp (v := .int .i64 x66) rfl rfl (r_load (v1 := .pointer (some (p65.add 0))) rfl rfl (ld1 Try.underlying3 rfl (hx67 _ (Below.refl _ _)))) ?_
            refine stp (v := .int .i64 (IntKind.i64.wrap (x66 - 1))) rfl rfl (r_sub (a := x66) (b := 1) rfl rfl rfl) ?_
            obtain ⟨p68, p69, he, h0, h1, hpa, H'⟩ := at_idx' H
            replace H := H'; clear H'
            refine stp (v := .pointer (some p69)) rfl rfl (r_indexAddr (v1 := Sl.v a0_0) (v2 := .int .i64 a1) rfl rfl rfl (ix' Try.underlying23 sz70 he h0 h1 hpa)) ?_
            clear he h0 h1 hpa
            refine stp (v := .pointer (some (p69.add 0))) rfl rfl (r_fieldAddr (v1 := .pointer (some p69)) rfl rfl (fld70_0 _ _)) ?_
            obtain ⟨hc70, hf71, B', H'⟩ := at_stc B H
            replace B := B'; clear B'
            replace H := H'; clear H'
            refine stp0 rfl rfl (r_store (v1 := .pointer (some (p69.add 0))) (v2 := .int .i64 (IntKind.i64.wrap (x66 - 1))) rfl rfl rfl (st1 rfl sz3 hc70 hf71)) ?_
            refine fin ?_
            refine n61 _ _ ?_
            refine c_seq (fun Q74 n72 o73 => ?_)
            refine c_region ?_
            refine stp (v := .pointer (some ⟨g27, 2, none⟩)) rfl rfl (r_fieldAddr (v1 := .pointer (some ⟨g27, 0, none⟩)) rfl rfl (fld70_2 _ _)) ?_
            refine stp (v := Sl.v y60) rfl rfl (r_load (v1 := .pointer (some ⟨g27, 2, none⟩)) rfl rfl (ld1 Try.underlying24 rfl (bx1 (B.get 0 rfl) rfl rfl))) ?_
            refine stp (v := .int .i64 (y60.n : Int)) rfl rfl (r_builtin (vs := [Sl.v y60]) rfl rfl (fun _ => lenl Try.underlying24)) ?_
            refine stp (v := .int .i64 0) rfl rfl (r_move rfl rfl) ?_
            refine fin ?_
            refine n72 _ _ ?_
            refine c_block (fun Q78 n75 x77 o76 => ?_)
            refine c_loop (σ := Int) (s0 := 0) (fun s => [(3, .pointer (some ⟨g5, 0, none⟩)), (6, .pointer (some ⟨g7, 0, none⟩)), (8, .pointer (some ⟨g27, 0, none⟩)), (57, Sl.v y60), (58, .int .i64 (y60.n : Int)), (59, .int .i64 s)]) (fun s => [⟨g27, 70, #[.int .i64 1, .string x49, Sl.v y60]⟩, ⟨g7, 26, #[Sl.v Sl.nil, Sl.v Sl.nil, .int .i64 0]⟩, ⟨g5, 26, #[Sl.v a0_0, Sl.v a0_1, .int .i64 a0_2]⟩]) B H rfl ?_
            rintro Q81 next82 s4_59 g w N nx79 o80 B H
            refine c_seq (fun Q85 n83 o84 => ?_)
            refine c_region ?_
            refine stp (v := .bool (decide (s4_59 < (y60.n : Int)))) rfl rfl (r_lss (a := s4_59) (b := (y60.n : Int)) rfl rfl rfl) ?_
            refine fin ?_
            refine n83 _ _ ?_
            refine c_seq (fun Q88 n86 o87 => ?_)
            refine c_cond (b := decide (s4_59 < (y60.n : Int))) rfl (fun hb89 => ?_) (fun hb89 => ?_)
            · replace H := at_itet hb89 H
              refine c_skip ?_
              refine n86 _ _ ?_
              refine c_seqj (fun a w => ∃ (g : Nat → Value) (N : NP), a = A 80 (updl g [(3, .pointer (some ⟨g5, 0, none⟩)), (6, .pointer (some ⟨g7, 0, none⟩)), (8, .pointer (some ⟨g27, 0, none⟩)), (57, Sl.v y60), (58, .int .i64 (y60.n : Int)), (59, .int .i64 s4_59)]) ∧ Bx w N [⟨g27, 70, #[.int .i64 1, .string x49, Sl.v y60]⟩, ⟨g7, 26, #[Sl.v Sl.nil, Sl.v Sl.nil, .int .i64 0]⟩, ⟨g5, 26, #[Sl.v a0_0, Sl.v a0_1, .int .i64 a0_2]⟩] ∧ Aft w N (f56_spec_l14Ours.J5 R (fun (z0 : Int) => next82 z0) s4_59 )) (fun Q92 n90 o91 => ?_) ?_
              ·
                refine c_block (fun Q96 n93 x95 o94 => ?_)
                refine c_seq (fun Q99 n97 o98 => ?_)
                refine c_region ?_
                obtain ⟨p100, p101, he, h0, h1, hpa, H'⟩ := at_idx' H
                replace H := H'; clear H'
                refine stp (v := .pointer (some p101)) rfl rfl (r_indexAddr (v1 := Sl.v y60) (v2 := .int .i64 s4_59) rfl rfl rfl (ix' Try.underlying24 sz3 he h0 h1 hpa)) ?_
                clear he h0 h1 hpa
                obtain ⟨x102, hx103, H'⟩ := at_ldc H
                replace H := H'; clear H'
                refine stp (v := .int .i64 x102) rfl rfl (r_load (v1 := .pointer (some p101)) rfl rfl (ld1 Try.underlying3 rfl (hx103 _ (Below.refl _ _)))) ?_
                refine stp (v := .int .i64 x102) rfl rfl (r_assign rfl rfl) ?_
                refine fin ?_
                refine n97 _ _ ?_
                refine c_seq (fun Q106 n104 o105 => ?_)
                refine c_region ?_
                refine stp (v := .int .i64 x102) rfl rfl (r_move rfl rfl) ?_
                refine stp (v := .bool (decide (0 ≤ x102))) rfl rfl (r_geq (a := x102) (b := 0) rfl rfl rfl) ?_
                refine fin ?_
                refine n104 _ _ ?_
                refine c_cond (b := decide (0 ≤ x102)) rfl (fun hb107 => ?_) (fun hb107 => ?_)
                · replace H := at_itet hb107 H
                  refine c_region ?_
                  refine stp (v := .pointer (some ⟨g5, 0, none⟩)) rfl rfl (r_fieldAddr (v1 := .pointer (some ⟨g5, 0, none⟩)) rfl rfl (fld26_0 _ _)) ?_
                  refine stp (v := Sl.v a0_0) rfl rfl (r_load (v1 := .pointer (some ⟨g5, 0, none⟩)) rfl rfl (ld1 Try.underlying23 rfl (bx1 (B.get 2 rfl) rfl rfl))) ?_
                  refine stp (v := .int .i64 x102) rfl rfl (r_move rfl rfl) ?_
                  obtain ⟨p108, p109, he, h0, h1, hpa, H'⟩ := at_idx' H
                  replace H := H'; clear H'
                  refine stp (v := .pointer (some p109)) rfl rfl (r_indexAddr (v1 := Sl.v a0_0) (v2 := .int .i64 x102) rfl rfl rfl (ix' Try.underlying23 sz70 he h0 h1 hpa)) ?_
                  clear he h0 h1 hpa
                  refine stp (v := .pointer (some (p109.add 0))) rfl rfl (r_fieldAddr (v1 := .pointer (some p109)) rfl rfl (fld70_0 _ _)) ?_
                  obtain ⟨x110, hx111, H'⟩ := at_ldc H
                  replace H := H'; clear H'
                  refine stp (v := .int .i64 x110) rfl rfl (r_load (v1 := .pointer (some (p109.add 0))) rfl rfl (ld1 Try.underlying3 rfl (hx111 _ (Below.refl _ _)))) ?_
                  refine stp (v := .int .i64 (IntKind.i64.wrap (x110 + 1))) rfl rfl (r_add (a := x110) (b := 1) rfl rfl rfl) ?_
                  obtain ⟨p112, p113, he, h0, h1, hpa, H'⟩ := at_idx' H
                  replace H := H'; clear H'
                  refine stp (v := .pointer (some p113)) rfl rfl (r_indexAddr (v1 := Sl.v a0_0) (v2 := .int .i64 x102) rfl rfl rfl (ix' Try.underlying23 sz70 he h0 h1 hpa)) ?_
                  clear he h0 h1 hpa
                  refine stp (v := .pointer (some (p113.add 0))) rfl rfl (r_fieldAddr (v1 := .pointer (some p113)) rfl rfl (fld70_0 _ _)) ?_
                  obtain ⟨hc114, hf115, B', H'⟩ := at_stc B H
                  replace B := B'; clear B'
                  replace H := H'; clear H'
                  refine stp0 rfl rfl (r_store (v1 := .pointer (some (p113.add 0))) (v2 := .int .i64 (IntKind.i64.wrap (x110 + 1))) rfl rfl rfl (st1 rfl sz3 hc114 hf115)) ?_
                  refine fin ?_
                  refine n93 _ _ ?_
                  exact n90 _ _ ⟨_, _, fr_self rfl, B, H⟩
                · replace H := at_itef hb107 H
                  refine c_skip ?_
                  refine n93 _ _ ?_
                  exact n90 _ _ ⟨_, _, fr_self rfl, B, H⟩
              ·
                rintro _ w ⟨g, N, rfl, B, H⟩
                refine c_region ?_
                refine stp (v := .int .i64 (IntKind.i64.wrap (s4_59 + 1))) rfl rfl (r_add (a := s4_59) (b := 1) rfl rfl rfl) ?_
                refine stp (v := .int .i64 (IntKind.i64.wrap (s4_59 + 1))) rfl rfl (r_move rfl rfl) ?_
                refine fin ?_
                exact nx79 (IntKind.i64.wrap (s4_59 + 1)) _ _ _ B H rfl
            · replace H := at_itef hb89 H
              refine c_exit (o87 _ _ _ nofun (o80 _ _ _ nofun (x77 _ _ ?_)))
              exact n37 _ _ ⟨x49, y60, _, _, fr_self rfl, B, H⟩
          · replace H := at_itef hb43 H
            refine c_skip ?_
            exact n37 _ _ ⟨(⟨#[]⟩ : ByteArray), j2_b8_2, _, _, fr_self rfl, B, H⟩
        ·
          rintro _ w ⟨j3_b8_1, j3_b8_2, g, N, rfl, B, H⟩
          refine c_seq (fun Q118 n116 o117 => ?_)
          refine c_region ?_
          refine stp (v := .agg #[Sl.v a0_0, Sl.v a0_1, .int .i64 a0_2]) rfl rfl (r_load (v1 := .pointer (some ⟨g5, 0, none⟩)) rfl rfl (bxn (B.get 2 rfl) Try.underlying26 rfl sz26)) ?_
          refine stp (v := .agg #[.int .i64 1, .string j3_b8_1, Sl.v j3_b8_2]) rfl rfl (r_load (v1 := .pointer (some ⟨g27, 0, none⟩)) rfl rfl (bxn (B.get 0 rfl) Try.underlying70 rfl sz70)) ?_
          refine stpc rfl rfl (r_call (vs := [.agg #[Sl.v a0_0, Sl.v a0_1, .int .i64 a0_2], .agg #[.int .i64 1, .string j3_b8_1, Sl.v j3_b8_2]]) rfl rfl (ca66 _ _)) ?_
          refine at_call B H (fun y119 w B H => ?_)
          refine stp (v := .agg #[Sl.v y119.1, Sl.v y119.2.1, .int .i64 y119.2.2.1]) rfl rfl (r_extract (v1 := .tuple #[.agg #[Sl.v y119.1, Sl.v y119.2.1, .int .i64 y119.2.2.1], .int .i64 y119.2.2.2]) rfl rfl rfl) ?_
          refine stp (v := .int .i64 y119.2.2.2) rfl rfl (r_extract (v1 := .tuple #[.agg #[Sl.v y119.1, Sl.v y119.2.1, .int .i64 y119.2.2.1], .int .i64 y119.2.2.2]) rfl rfl rfl) ?_
          obtain ⟨w2, hr, B, H⟩ := B.stn H (i := 1) (T := 26) (cs' := #[Sl.v y119.1, Sl.v y119.2.1, .int .i64 y119.2.2.1]) (ad := ⟨g7, 0, none⟩) rfl rfl rfl rfl sz26
          refine stp0 rfl rfl (r_store (v1 := .pointer (some ⟨g7, 0, none⟩)) (v2 := .agg #[Sl.v y119.1, Sl.v y119.2.1, .int .i64 y119.2.2.1]) rfl rfl rfl hr) ?_
          replace B : Bx _ _ [⟨g27, 70, #[.int .i64 1, .string j3_b8_1, Sl.v j3_b8_2]⟩, ⟨g7, 26, #[Sl.v y119.1, Sl.v y119.2.1, .int .i64 y119.2.2.1]⟩, ⟨g5, 26, #[Sl.v a0_0, Sl.v a0_1, .int .i64 a0_2]⟩] := B
          clear hr
          refine stp (v := .int .i64 y119.2.2.2) rfl rfl (r_assign rfl rfl) ?_
          refine fin ?_
          refine n116 _ _ ?_
          refine c_ret ((done (vs := [.agg #[Sl.v y119.1, Sl.v y119.2.1, .int .i64 y119.2.2.1], .int .i64 y119.2.2.2]) (.cell rfl (bxn (B.get 1 rfl) Try.underlying26 rfl sz26) (.tmp rfl .nil)) rfl ⟨_, rfl, H.now⟩))
def f57_slices_ContainsFunc_int_int.T (R : Value → World → Prop) (a0 : Sl) (a1 : Fv) : Tm :=
  T.call Try.prog 67 [Sl.v a0, Fv.v a1] (Value.int .i64) fun (y7 : Int) => T.ret R (.bool (decide (0 ≤ y7)))
set_option maxHeartbeats 4000000 in
set_option maxRecDepth 100000 in
theorem f57_slices_ContainsFunc_int_int.ok (R : Value → World → Prop) (a0 : Sl) (a1 : Fv) (w : World) (h : Aft w (fun _ => False) (f57_slices_ContainsFunc_int_int.T R a0 a1)) :
    Calls Try.prog 57 (List.toArray [Sl.v a0, Fv.v a1]) w fun e w' => ∃ v, e = .returned v ∧ R v w' := by
  refine enter 9 Try.func57 rfl rfl rfl ?_
  have B := Bx.nil w
  have H := h
  clear h
  refine c_seq (fun Q3 n1 o2 => ?_)
  refine c_region ?_
  refine stp (v := .bool false) rfl rfl (r_assign rfl rfl) ?_
  refine fin ?_
  refine n1 _ _ ?_
  refine c_seq (fun Q6 n4 o5 => ?_)
  refine c_region ?_
  refine stp (v := Sl.v a0) rfl rfl (r_move rfl rfl) ?_
  refine stp (v := Fv.v a1) rfl rfl (r_move rfl rfl) ?_
  refine stpc rfl rfl (r_call (vs := [Sl.v a0, Fv.v a1]) rfl rfl (ca67 _ _)) ?_
  refine at_call B H (fun y7 w B H => ?_)
  refine stp (v := .bool (decide (0 ≤ y7))) rfl rfl (r_geq (a := y7) (b := 0) rfl rfl rfl) ?_
  refine stp (v := .bool (decide (0 ≤ y7))) rfl rfl (r_assign rfl rfl) ?_
  refine fin ?_
  refine n4 _ _ ?_
  refine c_ret ((done (vs := [.bool (decide (0 ≤ y7))]) (.tmp rfl .nil) rfl ⟨_, rfl, H.now⟩))
def f58_impl_Cow_isGoodCell_1.T (R : Value → World → Prop) (a0 : Int) (c0 : Addr) : Tm :=
  T.ldc (c0.add 0) Sl.v fun (x7_0 : Sl) => T.ldc (c0.add 1) Sl.v fun (x7_1 : Sl) => T.ldc (c0.add 2) (Value.int .i64) fun (x7_2 : Int) => T.call Try.prog 33 [.agg #[Sl.v x7_0, Sl.v x7_1, .int .i64 x7_2], .int .i64 a0] Value.bool fun (y11 : Bool) => T.ret R (.bool (!y11))
set_option maxHeartbeats 4000000 in
set_option maxRecDepth 100000 in
theorem f58_impl_Cow_isGoodCell_1.ok (R : Value → World → Prop) (a0 : Int) (c0 : Addr) (w : World) (h : Aft w (fun _ => False) (f58_impl_Cow_isGoodCell_1.T R a0 c0)) :
    Calls Try.prog 58 (List.toArray [.int .i64 a0, .pointer (some c0)]) w fun e w' => ∃ v, e = .returned v ∧ R v w' := by
  refine enter 8 Try.func58 rfl rfl rfl ?_
  have B := Bx.nil w
  have H := h
  clear h
  refine c_seq (fun Q3 n1 o2 => ?_)
  refine c_region ?_
  refine stp (v := .bool false) rfl rfl (r_assign rfl rfl) ?_
  refine fin ?_
  refine n1 _ _ ?_
  refine c_seq (fun Q6 n4 o5 => ?_)
  refine c_region ?_
  obtain ⟨x7_0, hx8, H'⟩ := at_ldc H
  replace H := H'; clear H'
  obtain ⟨x7_1, hx9, H'⟩ := at_ldc H
  replace H := H'; clear H'
  obtain ⟨x7_2, hx10, H'⟩ := at_ldc H
  replace H := H'; clear H'
  refine stp (v := .agg #[Sl.v x7_0, Sl.v x7_1, .int .i64 x7_2]) rfl rfl (r_load (v1 := .pointer (some c0)) rfl rfl (ldn (cs := [Sl.v x7_0, Sl.v x7_1, .int .i64 x7_2]) Try.underlying26 rfl sz26 (cells_start (cells_cons (m := 0) (hx8 _ (Below.refl _ _)) (cells_cons (m := 1) (hx9 _ (Below.refl _ _)) (cells_cons (m := 2) (hx10 _ (Below.refl _ _)) cells_nil)))))) ?_
  refine stp (v := .int .i64 a0) rfl rfl (r_move rfl rfl) ?_
  refine stpc rfl rfl (r_call (vs := [.agg #[Sl.v x7_0, Sl.v x7_1, .int .i64 x7_2], .int .i64 a0]) rfl rfl (ca33 _ _)) ?_
  refine at_call B H (fun y11 w B H => ?_)
  refine stp (v := .bool (!y11)) rfl rfl (r_not (b := y11) rfl rfl) ?_
  refine stp (v := .bool (!y11)) rfl rfl (r_assign rfl rfl) ?_
  refine fin ?_
  refine n4 _ _ ?_
  refine c_ret ((done (vs := [.bool (!y11)]) (.tmp rfl .nil) rfl ⟨_, rfl, H.now⟩))
def f63_spec_l14Drop.L1 (R : Value → World → Prop) (x48 : Sl) (s1_41 : Int) (s1_b2_0 : Sl) (s1_b2_1 : Sl) (s1_b2_2 : Int) (next74 : (Int) → (Sl) → (Sl) → (Int) → Tm) : Tm :=
  T.ite (decide (s1_41 < (x48.n : Int))) (T.idx x48 s1_41 1 fun (p93 : Addr) => T.ldc p93 (Value.int .i64) fun (x94 : Int) => T.call Try.prog 63 [.agg #[Sl.v s1_b2_0, Sl.v s1_b2_1, .int .i64 s1_b2_2], .int .i64 x94] (fun (z : Sl × Sl × Int) => .agg #[Sl.v z.1, Sl.v z.2.1, .int .i64 z.2.2]) fun (y96 : Sl × Sl × Int) => next74 (IntKind.i64.wrap (s1_41 + 1)) y96.1 y96.2.1 y96.2.2) (T.ret R (.agg #[Sl.v s1_b2_0, Sl.v s1_b2_1, .int .i64 s1_b2_2]))
def f63_spec_l14Drop.T (R : Value → World → Prop) (a0_0 : Sl) (a0_1 : Sl) (a0_2 : Int) (a1 : Int) : Tm :=
  T.ite (decide (a1 < 0)) (T.ret R (.agg #[Sl.v a0_0, Sl.v a0_1, .int .i64 a0_2])) (T.idx a0_0 a1 3 fun (p22 : Addr) => T.ldc (p22.add 0) (Value.int .i64) fun (x23 : Int) => T.idx a0_0 a1 3 fun (p26 : Addr) => T.stc (p26.add 0) (.int .i64 (IntKind.i64.wrap (x23 - 1))) (T.idx a0_0 a1 3 fun (p36 : Addr) => T.ldc (p36.add 0) (Value.int .i64) fun (x37 : Int) => T.ite (decide (0 < x37)) (T.ret R (.agg #[Sl.v a0_0, Sl.v a0_1, .int .i64 a0_2])) (T.idx a0_0 a1 3 fun (p47 : Addr) => T.ldc (p47.add 2) Sl.v fun (x48 : Sl) => T.idx a0_0 a1 3 fun (p54 : Addr) => T.stc (p54.add 0) (.int .i64 0) (T.stc (p54.add 1) (.string (⟨#[]⟩ : ByteArray)) (T.stc (p54.add 2) (Sl.v Sl.nil) (T.loop (fun (s : Int × Sl × Sl × Int) next => f63_spec_l14Drop.L1 R x48 s.1 s.2.1 s.2.2.1 s.2.2.2 (fun (z0 : Int) (z1 : Sl) (z2 : Sl) (z3 : Int) => next (z0, z1, z2, z3))) (0, a0_0, a0_1, a0_2)))))))
set_option maxHeartbeats 4000000 in
set_option maxRecDepth 100000 in
theorem f63_spec_l14Drop.ok (R : Value → World → Prop) (a0_0 : Sl) (a0_1 : Sl) (a0_2 : Int) (a1 : Int) (w : World) (h : Aft w (fun _ => False) (f63_spec_l14Drop.T R a0_0 a0_1 a0_2 a1)) :
    Calls Try.prog 63 (List.toArray [.agg #[Sl.v a0_0, Sl.v a0_1, .int .i64 a0_2], .int .i64 a1]) w fun e w' => ∃ v, e = .returned v ∧ R v w' := by
  refine enter 50 Try.func63 rfl rfl rfl ?_
  have B := Bx.nil w
  have H := h
  clear h
  refine c_seq (fun Q3 n1 o2 => ?_)
  refine c_region ?_
  obtain ⟨w4, N, g5, hw, hg, B, H⟩ := B.new H 26 #[Sl.v a0_0, Sl.v a0_1, .int .i64 a0_2]
  refine stp (v := .pointer (some ⟨g5, 0, none⟩)) (w' := w4) rfl rfl (r_box (v1 := .agg #[Sl.v a0_0, Sl.v a0_1, .int .i64 a0_2]) rfl rfl (box_run rfl hw hg)) ?_
  clear hw hg
  obtain ⟨w6, N, g7, hw, hg, B, H⟩ := B.new H 26 #[Sl.v Sl.nil, Sl.v Sl.nil, .int .i64 0]
  refine stp (v := .pointer (some ⟨g7, 0, none⟩)) (w' := w6) rfl rfl (r_alloc rfl (alloc_run (al26 _) hw hg)) ?_
  clear hw hg
  refine fin ?_
  refine n1 _ _ ?_
  refine c_seq (fun Q10 n8 o9 => ?_)
  refine c_seq (fun Q13 n11 o12 => ?_)
  refine c_region ?_
  refine stp (v := .int .i64 a1) rfl rfl (r_move rfl rfl) ?_
  refine stp (v := .bool (decide (a1 < 0))) rfl rfl (r_lss (a := a1) (b := 0) rfl rfl rfl) ?_
  refine fin ?_
  refine n11 _ _ ?_
  refine c_cond (b := decide (a1 < 0)) rfl (fun hb14 => ?_) (fun hb14 => ?_)
  · replace H := at_itet hb14 H
    refine c_seq (fun Q17 n15 o16 => ?_)
    refine c_region ?_
    refine stp (v := .agg #[Sl.v a0_0, Sl.v a0_1, .int .i64 a0_2]) rfl rfl (r_load (v1 := .pointer (some ⟨g5, 0, none⟩)) rfl rfl (bxn (B.get 1 rfl) Try.underlying26 rfl sz26)) ?_
    obtain ⟨w2, hr, B, H⟩ := B.stn H (i := 0) (T := 26) (cs' := #[Sl.v a0_0, Sl.v a0_1, .int .i64 a0_2]) (ad := ⟨g7, 0, none⟩) rfl rfl rfl rfl sz26
    refine stp0 rfl rfl (r_store (v1 := .pointer (some ⟨g7, 0, none⟩)) (v2 := .agg #[Sl.v a0_0, Sl.v a0_1, .int .i64 a0_2]) rfl rfl rfl hr) ?_
    replace B : Bx _ _ [⟨g7, 26, #[Sl.v a0_0, Sl.v a0_1, .int .i64 a0_2]⟩, ⟨g5, 26, #[Sl.v a0_0, Sl.v a0_1, .int .i64 a0_2]⟩] := B
    clear hr
    refine fin ?_
    refine n15 _ _ ?_
    refine c_ret (o9 _ _ _ nofun ((done (vs := [.agg #[Sl.v a0_0, Sl.v a0_1, .int .i64 a0_2]]) (.cell rfl (bxn (B.get 0 rfl) Try.underlying26 rfl sz26) .nil) rfl ⟨_, rfl, H.now⟩)))
  · replace H := at_itef hb14 H
    refine c_skip ?_
    refine n8 _ _ ?_
    refine c_seq (fun Q20 n18 o19 => ?_)
    refine c_region ?_
    refine stp (v := .pointer (some ⟨g5, 0, none⟩)) rfl rfl (r_fieldAddr (v1 := .pointer (some ⟨g5, 0, none⟩)) rfl rfl (fld26_0 _ _)) ?_
    refine stp (v := Sl.v a0_0) rfl rfl (r_load (v1 := .pointer (some ⟨g5, 0, none⟩)) rfl rfl (ld1 Try.underlying23 rfl (bx1 (B.get 1 rfl) rfl rfl))) ?_
    refine stp (v := .int .i64 a1) rfl rfl (r_move rfl rfl) ?_
    obtain ⟨p21, p22, he, h0, h1, hpa, H'⟩ := at_idx' H
    replace H := H'; clear H'
    refine stp (v := .pointer (some p22)) rfl rfl (r_indexAddr (v1 := Sl.v a0_0) (v2 := .int .i64 a1) rfl rfl rfl (ix' Try.underlying23 sz70 he h0 h1 hpa)) ?_
    clear he h0 h1 hpa
    refine stp (v := .pointer (some (p22.add 0))) rfl rfl (r_fieldAddr (v1 := .pointer (some p22)) rfl rfl (fld70_0 _ _)) ?_
    obtain ⟨x23, hx24, H'⟩ := at_ldc H
    replace H := H'; clear H'
    refine stp (v := .int .i64 x23) rfl rfl (r_load (v1 := .pointer (some (p22.add 0))) rfl rfl (ld1 Try.underlying3 rfl (hx24 _ (Below.refl _ _)))) ?_
    refine stp (v := .int .i64 (IntKind.i64.wrap (x23 - 1))) rfl rfl (r_sub (a := x23) (b := 1) rfl rfl rfl) ?_
    obtain ⟨p25, p26, he, h0, h1, hpa, H'⟩ := at_idx' H
    replace H := H'; clear H'
    refine stp (v := .pointer (some p26)) rfl rfl (r_indexAddr (v1 := Sl.v a0_0) (v2 := .int .i64 a1) rfl rfl rfl (ix' Try.underlying23 sz70 he h0 h1 hpa)) ?_
    clear he h0 h1 hpa
    refine stp (v := .pointer (some (p26.add 0))) rfl rfl (r_fieldAddr (v1 := .pointer (some p26)) rfl rfl (fld70_0 _ _)) ?_
    obtain ⟨hc27, hf28, B', H'⟩ := at_stc B H
    replace B := B'; clear B'
    replace H := H'; clear H'
    refine stp0 rfl rfl (r_store (v1 := .pointer (some (p26.add 0))) (v2 := .int .i64 (IntKind.i64.wrap (x23 - 1))) rfl rfl rfl (st1 rfl sz3 hc27 hf28)) ?_
    refine fin ?_
    refine n18 _ _ ?_
    refine c_seq (fun Q31 n29 o30 => ?_)
    refine c_seq (fun Q34 n32 o33 => ?_)
    refine c_region ?_
    refine stp (v := .pointer (some ⟨g5, 0, none⟩)) rfl rfl (r_fieldAddr (v1 := .pointer (some ⟨g5, 0, none⟩)) rfl rfl (fld26_0 _ _)) ?_
    refine stp (v := Sl.v a0_0) rfl rfl (r_load (v1 := .pointer (some ⟨g5, 0, none⟩)) rfl rfl (ld1 Try.underlying23 rfl (bx1 (B.get 1 rfl) rfl rfl))) ?_
    refine stp (v := .int .i64 a1) rfl rfl (r_move rfl rfl) ?_
    obtain ⟨p35, p36, he, h0, h1, hpa, H'⟩ := at_idx' H
    replace H := H'; clear H'
    refine stp (v := .pointer (some p36)) rfl rfl (r_indexAddr (v1 := Sl.v a0_0) (v2 := .int .i64 a1) rfl rfl rfl (ix' Try.underlying23 sz70 he h0 h1 hpa)) ?_
    clear he h0 h1 hpa
    refine stp (v := .pointer (some (p36.add 0))) rfl rfl (r_fieldAddr (v1 := .pointer (some p36)) rfl rfl (fld70_0 _ _)) ?_
    obtain ⟨x37, hx38, H'⟩ := at_ldc H
    replace H := H'; clear H'
    refine stp (v := .int .i64 x37) rfl rfl (r_load (v1 := .pointer (some (p36.add 0))) rfl rfl (ld1 Try.underlying3 rfl (hx38 _ (Below.refl _ _)))) ?_
    refine stp (v := .bool (decide (0 < x37))) rfl rfl (r_gtr (a := x37) (b := 0) rfl rfl rfl) ?_
    refine fin ?_
    refine n32 _ _ ?_
    refine c_cond (b := decide (0 < x37)) rfl (fun hb39 => ?_) (fun hb39 => ?_)
    · replace H := at_itet hb39 H
      refine c_seq (fun Q42 n40 o41 => ?_)
      refine c_region ?_
      refine stp (v := .agg #[Sl.v a0_0, Sl.v a0_1, .int .i64 a0_2]) rfl rfl (r_load (v1 := .pointer (some ⟨g5, 0, none⟩)) rfl rfl (bxn (B.get 1 rfl) Try.underlying26 rfl sz26)) ?_
      obtain ⟨w2, hr, B, H⟩ := B.stn H (i := 0) (T := 26) (cs' := #[Sl.v a0_0, Sl.v a0_1, .int .i64 a0_2]) (ad := ⟨g7, 0, none⟩) rfl rfl rfl rfl sz26
      refine stp0 rfl rfl (r_store (v1 := .pointer (some ⟨g7, 0, none⟩)) (v2 := .agg #[Sl.v a0_0, Sl.v a0_1, .int .i64 a0_2]) rfl rfl rfl hr) ?_
      replace B : Bx _ _ [⟨g7, 26, #[Sl.v a0_0, Sl.v a0_1, .int .i64 a0_2]⟩, ⟨g5, 26, #[Sl.v a0_0, Sl.v a0_1, .int .i64 a0_2]⟩] := B
      clear hr
      refine fin ?_
      refine n40 _ _ ?_
      refine c_ret (o30 _ _ _ nofun ((done (vs := [.agg #[Sl.v a0_0, Sl.v a0_1, .int .i64 a0_2]]) (.cell rfl (bxn (B.get 0 rfl) Try.underlying26 rfl sz26) .nil) rfl ⟨_, rfl, H.now⟩)))
    · replace H := at_itef hb39 H
      refine c_skip ?_
      refine n29 _ _ ?_
      refine c_seq (fun Q45 n43 o44 => ?_)
      refine c_region ?_
      refine stp (v := .pointer (some ⟨g5, 0, none⟩)) rfl rfl (r_fieldAddr (v1 := .pointer (some ⟨g5, 0, none⟩)) rfl rfl (fld26_0 _ _)) ?_
      refine stp (v := Sl.v a0_0) rfl rfl (r_load (v1 := .pointer (some ⟨g5, 0, none⟩)) rfl rfl (ld1 Try.underlying23 rfl (bx1 (B.get 1 rfl) rfl rfl))) ?_
      refine stp (v := .int .i64 a1) rfl rfl (r_move rfl rfl) ?_
      obtain ⟨p46, p47, he, h0, h1, hpa, H'⟩ := at_idx' H
      replace H := H'; clear H'
      refine stp (v := .pointer (some p47)) rfl rfl (r_indexAddr (v1 := Sl.v a0_0) (v2 := .int .i64 a1) rfl rfl rfl (ix' Try.underlying23 sz70 he h0 h1 hpa)) ?_
      clear he h0 h1 hpa
      refine stp (v := .pointer (some (p47.add 2))) rfl rfl (r_fieldAddr (v1 := .pointer (some p47)) rfl rfl (fld70_2 _ _)) ?_
      obtain ⟨x48, hx49, H'⟩ := at_ldc H
      replace H := H'; clear H'
      refine stp (v := Sl.v x48) rfl rfl (r_load (v1 := .pointer (some (p47.add 2))) rfl rfl (ld1 Try.underlying24 rfl (hx49 _ (Below.refl _ _)))) ?_
      refine stp (v := Sl.v x48) rfl rfl (r_assign rfl rfl) ?_
      refine fin ?_
      refine n43 _ _ ?_
      refine c_seq (fun Q52 n50 o51 => ?_)
      refine c_region ?_
      refine stp (v := .pointer (some ⟨g5, 0, none⟩)) rfl rfl (r_fieldAddr (v1 := .pointer (some ⟨g5, 0, none⟩)) rfl rfl (fld26_0 _ _)) ?_
      refine stp (v := Sl.v a0_0) rfl rfl (r_load (v1 := .pointer (some ⟨g5, 0, none⟩)) rfl rfl (ld1 Try.underlying23 rfl (bx1 (B.get 1 rfl) rfl rfl))) ?_
      refine stp (v := .int .i64 a1) rfl rfl (r_move rfl rfl) ?_
      refine stp (v := .agg #[.int .i64 0, .string (⟨#[]⟩ : ByteArray), Sl.v Sl.nil]) rfl rfl (r_build (qs := []) rfl rfl (site8  _)) ?_
      obtain ⟨p53, p54, he, h0, h1, hpa, H'⟩ := at_idx' H
      replace H := H'; clear H'
      refine stp (v := .pointer (some p54)) rfl rfl (r_indexAddr (v1 := Sl.v a0_0) (v2 := .int .i64 a1) rfl rfl rfl (ix' Try.underlying23 sz70 he h0 h1 hpa)) ?_
      clear he h0 h1 hpa
      obtain ⟨hc55, hf56, B', H'⟩ := at_stc B H
      replace B := B'; clear B'
      replace H := H'; clear H'
      obtain ⟨hc57, hf58, B', H'⟩ := at_stc B H
      replace B := B'; clear B'
      replace H := H'; clear H'
      obtain ⟨hc59, hf60, B', H'⟩ := at_stc B H
      replace B := B'; clear B'
      replace H := H'; clear H'
      refine stp0 rfl rfl (r_store (v1 := .pointer (some p54)) (v2 := .agg #[.int .i64 0, .string (⟨#[]⟩ : ByteArray), Sl.v Sl.nil]) rfl rfl rfl (stn (N := fun _ => False) sz70 (.cons rfl hc55 hf56 (.cons rfl hc57 hf58 (.cons rfl hc59 hf60 .nil))))) ?_
      refine fin ?_
      refine n50 _ _ ?_
      refine c_seq (fun Q63 n61 o62 => ?_)
      refine c_seq (fun Q66 n64 o65 => ?_)
      refine c_region ?_
      refine stp (v := Sl.v x48) rfl rfl (r_move rfl rfl) ?_
      refine stp (v := .int .i64 (x48.n : Int)) rfl rfl (r_builtin (vs := [Sl.v x48]) rfl rfl (fun _ => lenl Try.underlying24)) ?_
      refine stp (v := .int .i64 0) rfl rfl (r_move rfl rfl) ?_
      refine fin ?_
      refine n64 _ _ ?_
      refine c_block (fun Q70 n67 x69 o68 => ?_)
      refine c_loop (σ := Int × Sl × Sl × Int) (s0 := (0, a0_0, a0_1, a0_2)) (fun s => [(2, .pointer (some ⟨g5, 0, none⟩)), (4, .pointer (some ⟨g7, 0, none⟩)), (39, Sl.v x48), (40, .int .i64 (x48.n : Int)), (41, .int .i64 s.1)]) (fun s => [⟨g7, 26, #[Sl.v Sl.nil, Sl.v Sl.nil, .int .i64 0]⟩, ⟨g5, 26, #[Sl.v s.2.1, Sl.v s.2.2.1, .int .i64 s.2.2.2]⟩]) B H rfl ?_
      rintro Q73 next74 ⟨s1_41, s1_b2_0, s1_b2_1, s1_b2_2⟩ g w N nx71 o72 B H
      refine c_seq (fun Q77 n75 o76 => ?_)
      refine c_region ?_
      refine stp (v := .bool (decide (s1_41 < (x48.n : Int)))) rfl rfl (r_lss (a := s1_41) (b := (x48.n : Int)) rfl rfl rfl) ?_
      refine fin ?_
      refine n75 _ _ ?_
      refine c_seq (fun Q80 n78 o79 => ?_)
      refine c_cond (b := decide (s1_41 < (x48.n : Int))) rfl (fun hb81 => ?_) (fun hb81 => ?_)
      · replace H := at_itet hb81 H
        refine c_skip ?_
        refine n78 _ _ ?_
        refine c_seq (fun Q84 n82 o83 => ?_)
        refine c_block (fun Q88 n85 x87 o86 => ?_)
        refine c_seq (fun Q91 n89 o90 => ?_)
        refine c_region ?_
        obtain ⟨p92, p93, he, h0, h1, hpa, H'⟩ := at_idx' H
        replace H := H'; clear H'
        refine stp (v := .pointer (some p93)) rfl rfl (r_indexAddr (v1 := Sl.v x48) (v2 := .int .i64 s1_41) rfl rfl rfl (ix' Try.underlying24 sz3 he h0 h1 hpa)) ?_
        clear he h0 h1 hpa
        obtain ⟨x94, hx95, H'⟩ := at_ldc H
        replace H := H'; clear H'
        refine stp (v := .int .i64 x94) rfl rfl (r_load (v1 := .pointer (some p93)) rfl rfl (ld1 Try.underlying3 rfl (hx95 _ (Below.refl _ _)))) ?_
        refine stp (v := .int .i64 x94) rfl rfl (r_assign rfl rfl) ?_
        refine fin ?_
        refine n89 _ _ ?_
        refine c_region ?_
        refine stp (v := .agg #[Sl.v s1_b2_0, Sl.v s1_b2_1, .int .i64 s1_b2_2]) rfl rfl (r_load (v1 := .pointer (some ⟨g5, 0, none⟩)) rfl rfl (bxn (B.get 1 rfl) Try.underlying26 rfl sz26)) ?_
        refine stp (v := .int .i64 x94) rfl rfl (r_move rfl rfl) ?_
        refine stpc rfl rfl (r_call (vs := [.agg #[Sl.v s1_b2_0, Sl.v s1_b2_1, .int .i64 s1_b2_2], .int .i64 x94]) rfl rfl (ca63 _ _)) ?_
        refine at_call B H (fun y96 w B H => ?_)
        obtain ⟨w2, hr, B, H⟩ := B.stn H (i := 1) (T := 26) (cs' := #[Sl.v y96.1, Sl.v y96.2.1, .int .i64 y96.2.2]) (ad := ⟨g5, 0, none⟩) rfl rfl rfl rfl sz26
        refine stp0 rfl rfl (r_store (v1 := .pointer (some ⟨g5, 0, none⟩)) (v2 := .agg #[Sl.v y96.1, Sl.v y96.2.1, .int .i64 y96.2.2]) rfl rfl rfl hr) ?_
        replace B : Bx _ _ [⟨g7, 26, #[Sl.v Sl.nil, Sl.v Sl.nil, .int .i64 0]⟩, ⟨g5, 26, #[Sl.v y96.1, Sl.v y96.2.1, .int .i64 y96.2.2]⟩] := B
        clear hr
        refine fin ?_
        refine n85 _ _ ?_
        refine n82 _ _ ?_
        refine c_region ?_
        refine stp (v := .int .i64 (IntKind.i64.wrap (s1_41 + 1))) rfl rfl (r_add (a := s1_41) (b := 1) rfl rfl rfl) ?_
        refine stp (v := .int .i64 (IntKind.i64.wrap (s1_41 + 1))) rfl rfl (r_move rfl rfl) ?_
        refine fin ?_
        exact nx71 ⟨IntKind.i64.wrap (s1_41 + 1), y96.1, y96.2.1, y96.2.2⟩ _ _ _ B H rfl
      · replace H := at_itef hb81 H
        refine c_exit (o79 _ _ _ nofun (o72 _ _ _ nofun (x69 _ _ ?_)))
        refine n61 _ _ ?_
        refine c_seq (fun Q99 n97 o98 => ?_)
        refine c_region ?_
        refine stp (v := .agg #[Sl.v s1_b2_0, Sl.v s1_b2_1, .int .i64 s1_b2_2]) rfl rfl (r_load (v1 := .pointer (some ⟨g5, 0, none⟩)) rfl rfl (bxn (B.get 1 rfl) Try.underlying26 rfl sz26)) ?_
        obtain ⟨w2, hr, B, H⟩ := B.stn H (i := 0) (T := 26) (cs' := #[Sl.v s1_b2_0, Sl.v s1_b2_1, .int .i64 s1_b2_2]) (ad := ⟨g7, 0, none⟩) rfl rfl rfl rfl sz26
        refine stp0 rfl rfl (r_store (v1 := .pointer (some ⟨g7, 0, none⟩)) (v2 := .agg #[Sl.v s1_b2_0, Sl.v s1_b2_1, .int .i64 s1_b2_2]) rfl rfl rfl hr) ?_
        replace B : Bx _ _ [⟨g7, 26, #[Sl.v s1_b2_0, Sl.v s1_b2_1, .int .i64 s1_b2_2]⟩, ⟨g5, 26, #[Sl.v s1_b2_0, Sl.v s1_b2_1, .int .i64 s1_b2_2]⟩] := B
        clear hr
        refine fin ?_
        refine n97 _ _ ?_
        refine c_ret ((done (vs := [.agg #[Sl.v s1_b2_0, Sl.v s1_b2_1, .int .i64 s1_b2_2]]) (.cell rfl (bxn (B.get 0 rfl) Try.underlying26 rfl sz26) .nil) rfl ⟨_, rfl, H.now⟩))
def f64_impl_Cow_create.J1 (R : Value → World → Prop) (a0 : (Option Addr)) (a1_1 : ByteArray) (a1_2 : Sl) (j1_5 : Int) : Tm :=
  T.nn a0 fun (p45 : Addr) => T.ldc (p45.add 0) Sl.v fun (x47 : Sl) => T.idx x47 j1_5 3 fun (p50 : Addr) => T.stc (p50.add 0) (.int .i64 1) (T.stc (p50.add 1) (.string a1_1) (T.stc (p50.add 2) (Sl.v a1_2) (T.ret R (.int .i64 j1_5))))
def f64_impl_Cow_create.T (R : Value → World → Prop) (a0 : (Option Addr)) (a1_0 : Int) (a1_1 : ByteArray) (a1_2 : Sl) : Tm :=
  T.nn a0 fun (p9 : Addr) => T.ldc (p9.add 0) Sl.v fun (x11 : Sl) => T.call Try.prog 68 [Sl.v x11, .func (.func 69) #[] #[]] (Value.int .i64) fun (y13 : Int) => T.ite (decide (y13 < 0)) (T.nn a0 fun (p24 : Addr) => T.ldc (p24.add 0) Sl.v fun (x26 : Sl) => T.nn a0 fun (p28 : Addr) => T.ldc (p28.add 0) Sl.v fun (x30 : Sl) => T.new (.cells #[.int .i64 0, .string (⟨#[]⟩ : ByteArray), Sl.v Sl.nil] 70) fun (g33 : Nat) => T.run Try.prog (Builtin.append_ #[23, 23] 23 #[Sl.v x30, Sl.v (⟨some ⟨g33, 0, none⟩, 1, 1⟩ : Sl)]) Sl.v fun (y34 : Sl) => T.nn a0 fun (p35 : Addr) => T.stc (p35.add 0) (Sl.v y34) (f64_impl_Cow_create.J1 R a0 a1_1 a1_2 (x26.n : Int))) (f64_impl_Cow_create.J1 R a0 a1_1 a1_2 y13)
set_option maxHeartbeats 4000000 in
set_option maxRecDepth 100000 in
theorem f64_impl_Cow_create.ok (R : Value → World → Prop) (a0 : (Option Addr)) (a1_0 : Int) (a1_1 : ByteArray) (a1_2 : Sl) (w : World) (h : Aft w (fun _ => False) (f64_impl_Cow_create.T R a0 a1_0 a1_1 a1_2)) :
    Calls Try.prog 64 (List.toArray [.pointer a0, .agg #[.int .i64 a1_0, .string a1_1, Sl.v a1_2]]) w fun e w' => ∃ v, e = .returned v ∧ R v w' := by
  refine enter 37 Try.func64 rfl rfl rfl ?_
  have B := Bx.nil w
  have H := h
  clear h
  refine c_seq (fun Q3 n1 o2 => ?_)
  refine c_region ?_
  obtain ⟨w4, N, g5, hw, hg, B, H⟩ := B.new H 70 #[.int .i64 a1_0, .string a1_1, Sl.v a1_2]
  refine stp (v := .pointer (some ⟨g5, 0, none⟩)) (w' := w4) rfl rfl (r_box (v1 := .agg #[.int .i64 a1_0, .string a1_1, Sl.v a1_2]) rfl rfl (box_run rfl hw hg)) ?_
  clear hw hg
  refine stp (v := .int .i64 0) rfl rfl (r_assign rfl rfl) ?_
  refine fin ?_
  refine n1 _ _ ?_
  refine c_seq (fun Q8 n6 o7 => ?_)
  refine c_region ?_
  refine stp (v := .pointer a0) rfl rfl (r_move rfl rfl) ?_
  obtain ⟨p9, hp10, H'⟩ := at_nn H
  replace H := H'; clear H'
  refine stp (v := .pointer (some p9)) rfl rfl (r_nn rfl (congrArg Value.pointer hp10)) ?_
  refine stp (v := .pointer (some (p9.add 0))) rfl rfl (r_fieldAddr (v1 := .pointer (some p9)) rfl rfl (fld26_0 _ _)) ?_
  obtain ⟨x11, hx12, H'⟩ := at_ldc H
  replace H := H'; clear H'
  refine stp (v := Sl.v x11) rfl rfl (r_load (v1 := .pointer (some (p9.add 0))) rfl rfl (ld1 Try.underlying23 rfl (hx12 _ (Below.refl _ _)))) ?_
  refine stpc rfl rfl (r_call (vs := [Sl.v x11, .func (.func 69) #[] #[]]) rfl rfl (ca68 _ _)) ?_
  refine at_call B H (fun y13 w B H => ?_)
  refine stp (v := .int .i64 y13) rfl rfl (r_assign rfl rfl) ?_
  refine fin ?_
  refine n6 _ _ ?_
  refine c_seqj (fun a w => ∃ (j1_5 : Int) (g : Nat → Value) (N : NP), a = A 37 (updl g [(0, .pointer a0), (3, .pointer (some ⟨g5, 0, none⟩)), (5, .int .i64 j1_5)]) ∧ Bx w N [⟨g5, 70, #[.int .i64 a1_0, .string a1_1, Sl.v a1_2]⟩] ∧ Aft w N (f64_impl_Cow_create.J1 R a0 a1_1 a1_2 j1_5)) (fun Q16 n14 o15 => ?_) ?_
  ·
    refine c_seq (fun Q19 n17 o18 => ?_)
    refine c_region ?_
    refine stp (v := .int .i64 y13) rfl rfl (r_move rfl rfl) ?_
    refine stp (v := .bool (decide (y13 < 0))) rfl rfl (r_lss (a := y13) (b := 0) rfl rfl rfl) ?_
    refine fin ?_
    refine n17 _ _ ?_
    refine c_cond (b := decide (y13 < 0)) rfl (fun hb20 => ?_) (fun hb20 => ?_)
    · replace H := at_itet hb20 H
      refine c_seq (fun Q23 n21 o22 => ?_)
      refine c_region ?_
      refine stp (v := .pointer a0) rfl rfl (r_move rfl rfl) ?_
      obtain ⟨p24, hp25, H'⟩ := at_nn H
      replace H := H'; clear H'
      refine stp (v := .pointer (some p24)) rfl rfl (r_nn rfl (congrArg Value.pointer hp25)) ?_
      refine stp (v := .pointer (some (p24.add 0))) rfl rfl (r_fieldAddr (v1 := .pointer (some p24)) rfl rfl (fld26_0 _ _)) ?_
      obtain ⟨x26, hx27, H'⟩ := at_ldc H
      replace H := H'; clear H'
      refine stp (v := Sl.v x26) rfl rfl (r_load (v1 := .pointer (some (p24.add 0))) rfl rfl (ld1 Try.underlying23 rfl (hx27 _ (Below.refl _ _)))) ?_
      refine stp (v := .int .i64 (x26.n : Int)) rfl rfl (r_builtin (vs := [Sl.v x26]) rfl rfl (fun _ => lenl Try.underlying23)) ?_
      refine stp (v := .int .i64 (x26.n : Int)) rfl rfl (r_assign rfl rfl) ?_
      refine fin ?_
      refine n21 _ _ ?_
      refine c_region ?_
      refine stp (v := .pointer a0) rfl rfl (r_move rfl rfl) ?_
      refine stp (v := .pointer a0) rfl rfl (r_move rfl rfl) ?_
      obtain ⟨p28, hp29, H'⟩ := at_nn H
      replace H := H'; clear H'
      refine stp (v := .pointer (some p28)) rfl rfl (r_nn rfl (congrArg Value.pointer hp29)) ?_
      refine stp (v := .pointer (some (p28.add 0))) rfl rfl (r_fieldAddr (v1 := .pointer (some p28)) rfl rfl (fld26_0 _ _)) ?_
      obtain ⟨x30, hx31, H'⟩ := at_ldc H
      replace H := H'; clear H'
      refine stp (v := Sl.v x30) rfl rfl (r_load (v1 := .pointer (some (p28.add 0))) rfl rfl (ld1 Try.underlying23 rfl (hx31 _ (Below.refl _ _)))) ?_
      refine stp (v := .agg #[.int .i64 0, .string (⟨#[]⟩ : ByteArray), Sl.v Sl.nil]) rfl rfl (r_build (qs := []) rfl rfl (site8  _)) ?_
      obtain ⟨w32, g33, hw, hg, B, H⟩ := at_new' B H
      refine stp (v := Sl.v (⟨some ⟨g33, 0, none⟩, 1, 1⟩ : Sl)) (w' := w32) rfl rfl (r_buildSlice (qs := [(0, .agg #[.int .i64 0, .string (⟨#[]⟩ : ByteArray), Sl.v Sl.nil])]) rfl rfl (bs_run (site7 0 (⟨#[]⟩ : ByteArray) Sl.nil _) hw hg)) ?_
      clear hw hg
      obtain ⟨y34, w2, hr, B, H⟩ := at_run B H
      refine stp (v := Sl.v y34) rfl rfl (r_builtin (vs := [Sl.v x30, Sl.v (⟨some ⟨g33, 0, none⟩, 1, 1⟩ : Sl)]) rfl rfl (fun _ => bi_append hr)) ?_
      clear hr
      obtain ⟨p35, hp36, H'⟩ := at_nn H
      replace H := H'; clear H'
      refine stp (v := .pointer (some p35)) rfl rfl (r_nn rfl (congrArg Value.pointer hp36)) ?_
      refine stp (v := .pointer (some (p35.add 0))) rfl rfl (r_fieldAddr (v1 := .pointer (some p35)) rfl rfl (fld26_0 _ _)) ?_
      obtain ⟨hc37, hf38, B', H'⟩ := at_stc B H
      replace B := B'; clear B'
      replace H := H'; clear H'
      refine stp0 rfl rfl (r_store (v1 := .pointer (some (p35.add 0))) (v2 := Sl.v y34) rfl rfl rfl (st1 rfl sz23 hc37 hf38)) ?_
      refine fin ?_
      exact n14 _ _ ⟨(x26.n : Int), _, _, fr_self rfl, B, H⟩
    · replace H := at_itef hb20 H
      refine c_skip ?_
      exact n14 _ _ ⟨y13, _, _, fr_self rfl, B, H⟩
  ·
    rintro _ w ⟨j1_5, g, N, rfl, B, H⟩
    refine c_seq (fun Q41 n39 o40 => ?_)
    refine c_region ?_
    refine stp (v := .pointer (some ⟨g5, 0, none⟩)) rfl rfl (r_fieldAddr (v1 := .pointer (some ⟨g5, 0, none⟩)) rfl rfl (fld70_0 _ _)) ?_
    obtain ⟨w2, hr, B, H⟩ := B.st1 H (i := 0) (j := 0) (T := 3) (v := .int .i64 1) (ad := ⟨g5, 0, none⟩) rfl rfl rfl rfl sz3
    refine stp0 rfl rfl (r_store (v1 := .pointer (some ⟨g5, 0, none⟩)) (v2 := .int .i64 1) rfl rfl rfl hr) ?_
    replace B : Bx _ _ [⟨g5, 70, #[.int .i64 1, .string a1_1, Sl.v a1_2]⟩] := B
    clear hr
    refine fin ?_
    refine n39 _ _ ?_
    refine c_seq (fun Q44 n42 o43 => ?_)
    refine c_open 6 (kap [] []) (fun i b => .pointer (some ⟨b, 0, none⟩)) (fun _ => []) (fun i => []) [0, 1, 2, 3, 4, 5] [] [] _ rfl (by kernel_rfl) (by kernel_rfl) rfl B (flk (by simp) al_nil) ?_
    refine ph_q (v := .pointer a0) rfl rfl rfl (hv_ok rfl rfl) (qy_val rfl (fun w_ ρ_ hb_ => (r_move rfl rfl))) ?_
    obtain ⟨p45, hp46, H'⟩ := at_nn H
    replace H := H'; clear H'
    refine ph_q (v := .pointer (some p45)) rfl rfl rfl (hv_ok rfl rfl) (qy_val rfl (fun w_ ρ_ hb_ => (r_nn rfl (congrArg Value.pointer hp46)))) ?_
    refine ph_q (v := .pointer (some (p45.add 0))) rfl rfl rfl (hv_ok rfl rfl) (qy_val rfl (fun w_ ρ_ hb_ => (r_fieldAddr (v1 := .pointer (some p45)) rfl rfl (fld26_0 _ _)))) ?_
    obtain ⟨x47, hx48, H'⟩ := at_ldcz H
    replace H := H'; clear H'
    refine ph_q (v := Sl.v x47) rfl rfl rfl (hv_ok rfl rfl) (qy_val rfl (fun w_ ρ_ hb_ => (r_load (v1 := .pointer (some (p45.add 0))) rfl rfl (ld1 Try.underlying23 rfl (Cls.ld hx48 hb_))))) ?_
    refine ph_q (v := .int .i64 j1_5) rfl rfl rfl (hv_ok rfl rfl) (qy_val rfl (fun w_ ρ_ hb_ => (r_move rfl rfl))) ?_
    refine ph_q (v := .agg #[.int .i64 1, .string a1_1, Sl.v a1_2]) rfl rfl rfl (hv_ok rfl rfl) (qy_val rfl (fun w_ ρ_ hb_ => (r_load (v1 := .pointer (some ⟨g5, 0, none⟩)) rfl rfl (bxn (hb_.get 0 rfl) Try.underlying70 rfl sz70)))) ?_
    refine ph_nil0 (fun w N hz B => ?_)
    replace H := H.step hz
    obtain ⟨p49, p50, he, h0, h1, hpa, H'⟩ := at_idx' H
    replace H := H'; clear H'
    refine stp (v := .pointer (some p50)) rfl rfl (r_indexAddr (v1 := Sl.v x47) (v2 := .int .i64 j1_5) rfl rfl rfl (ix' Try.underlying23 sz70 he h0 h1 hpa)) ?_
    clear he h0 h1 hpa
    obtain ⟨hc51, hf52, B', H'⟩ := at_stc B H
    replace B := B'; clear B'
    replace H := H'; clear H'
    obtain ⟨hc53, hf54, B', H'⟩ := at_stc B H
    replace B := B'; clear B'
    replace H := H'; clear H'
    obtain ⟨hc55, hf56, B', H'⟩ := at_stc B H
    replace B := B'; clear B'
    replace H := H'; clear H'
    refine stp0 rfl rfl (r_store (v1 := .pointer (some p50)) (v2 := .agg #[.int .i64 1, .string a1_1, Sl.v a1_2]) rfl rfl rfl (stn (N := fun _ => False) sz70 (.cons rfl hc51 hf52 (.cons rfl hc53 hf54 (.cons rfl hc55 hf56 .nil))))) ?_
    refine fin ?_
    refine n42 _ _ ?_
    refine c_seq (fun Q59 n57 o58 => ?_)
    refine c_region ?_
    refine stp (v := .int .i64 j1_5) rfl rfl (r_move rfl rfl) ?_
    refine stp (v := .int .i64 j1_5) rfl rfl (r_assign rfl rfl) ?_
    refine fin ?_
    refine n57 _ _ ?_
    refine c_ret ((done (vs := [.int .i64 j1_5]) (.tmp rfl .nil) rfl ⟨_, rfl, H.now⟩))
def f65_slices_Repeat_int_int.L4 (R : Value → World → Prop) (y26 : Sl) (s4_8 : Int) (next41 : (Int) → Tm) : Tm :=
  T.ite (decide (s4_8 < (y26.n : Int))) (T.ass (0 ≤ s4_8 ∧ s4_8 ≤ (y26.n : Int) ∧ (y26.n : Int) ≤ (y26.c : Int) ∧ (y26.c : Int) ≤ (y26.c : Int)) (T.ass (0 ≤ (0 : Int) ∧ (0 : Int) ≤ s4_8 ∧ s4_8 ≤ (y26.c : Int) ∧ (y26.c : Int) ≤ (y26.c : Int)) (T.run Try.prog (Builtin.copy_ #[24, 24] 3 #[Sl.v (y26.cut 1 s4_8.toNat (y26.n : Int).toNat (y26.c : Int).toNat), Sl.v (y26.cut 1 (0 : Int).toNat s4_8.toNat (y26.c : Int).toNat)]) (Value.int .i64) fun (y60 : Int) => next41 (IntKind.i64.wrap (s4_8 + y60))))) (T.ret R (Sl.v y26))
def f65_slices_Repeat_int_int.J2 (R : Value → World → Prop) (a0 : Sl) (y14 : Int × Int) : Tm :=
  T.run Try.prog (Instr.makeSlice 24 (.int .i64 (IntKind.i64.wrap y14.2)) (.int .i64 (IntKind.i64.wrap y14.2))) Sl.v fun (y26 : Sl) => T.run Try.prog (Builtin.copy_ #[24, 24] 3 #[Sl.v y26, Sl.v a0]) (Value.int .i64) fun (y30 : Int) => T.loop (fun (s : Int) next => f65_slices_Repeat_int_int.L4 R y26 s (fun (z0 : Int) => next z0)) y30
def f65_slices_Repeat_int_int.J3 (R : Value → World → Prop) (a0 : Sl) (y14 : Int × Int) (j3_26 : Bool) : Tm :=
  T.ite j3_26 (T.ass False (T.ret R undef)) (f65_slices_Repeat_int_int.J2 R a0 y14 )
def f65_slices_Repeat_int_int.J1 (R : Value → World → Prop) (a0 : Sl) (a1 : Int) : Tm :=
  T.call Try.prog 70 [.int .u64 (IntKind.u64.wrap (a0.n : Int)), .int .u64 (IntKind.u64.wrap a1)] (fun (z : Int × Int) => .tuple #[.int .u64 z.1, .int .u64 z.2]) fun (y14 : Int × Int) => T.ite (decide (0 < y14.1)) (f65_slices_Repeat_int_int.J3 R a0 y14 true) (f65_slices_Repeat_int_int.J3 R a0 y14 (decide (9223372036854775807 < y14.2)))
def f65_slices_Repeat_int_int.T (R : Value → World → Prop) (a0 : Sl) (a1 : Int) : Tm :=
  T.ite (decide (a1 < 0)) (T.ass False (T.ret R undef)) (f65_slices_Repeat_int_int.J1 R a0 a1 )
set_option maxHeartbeats 4000000 in
set_option maxRecDepth 100000 in
theorem f65_slices_Repeat_int_int.ok (R : Value → World → Prop) (a0 : Sl) (a1 : Int) (w : World) (h : Aft w (fun _ => False) (f65_slices_Repeat_int_int.T R a0 a1)) :
    Calls Try.prog 65 (List.toArray [Sl.v a0, .int .i64 a1]) w fun e w' => ∃ v, e = .returned v ∧ R v w' := by
  refine enter 48 Try.func65 rfl rfl rfl ?_
  have B := Bx.nil w
  have H := h
  clear h
  refine c_seq (fun Q3 n1 o2 => ?_)
  refine c_region ?_
  refine stp (v := Sl.v Sl.nil) rfl rfl (r_assign rfl rfl) ?_
  refine fin ?_
  refine n1 _ _ ?_
  refine c_seqj (fun a w => ∃ (g : Nat → Value) (N : NP), a = A 48 (updl g [(0, Sl.v a0), (1, .int .i64 a1)]) ∧ Bx w N [] ∧ Aft w N (f65_slices_Repeat_int_int.J1 R a0 a1 )) (fun Q6 n4 o5 => ?_) ?_
  ·
    refine c_seq (fun Q9 n7 o8 => ?_)
    refine c_region ?_
    refine stp (v := .int .i64 a1) rfl rfl (r_move rfl rfl) ?_
    refine stp (v := .bool (decide (a1 < 0))) rfl rfl (r_lss (a := a1) (b := 0) rfl rfl rfl) ?_
    refine fin ?_
    refine n7 _ _ ?_
    refine c_cond (b := decide (a1 < 0)) rfl (fun hb10 => ?_) (fun hb10 => ?_)
    · replace H := at_itet hb10 H
      refine c_region ?_
      exact (at_ass H).1.elim
    · replace H := at_itef hb10 H
      refine c_skip ?_
      exact n4 _ _ ⟨_, _, fr_self rfl, B, H⟩
  ·
    rintro _ w ⟨g, N, rfl, B, H⟩
    refine c_seq (fun Q13 n11 o12 => ?_)
    refine c_region ?_
    refine stp (v := Sl.v a0) rfl rfl (r_move rfl rfl) ?_
    refine stp (v := .int .i64 (a0.n : Int)) rfl rfl (r_builtin (vs := [Sl.v a0]) rfl rfl (fun _ => lenl Try.underlying24)) ?_
    refine stp (v := .int .u64 (IntKind.u64.wrap (a0.n : Int))) rfl rfl (r_convert (v1 := .int .i64 (a0.n : Int)) rfl rfl (cvi Try.underlying3 Try.underlying92)) ?_
    refine stp (v := .int .i64 a1) rfl rfl (r_move rfl rfl) ?_
    refine stp (v := .int .u64 (IntKind.u64.wrap a1)) rfl rfl (r_convert (v1 := .int .i64 a1) rfl rfl (cvi Try.underlying3 Try.underlying92)) ?_
    refine stpc rfl rfl (r_call (vs := [.int .u64 (IntKind.u64.wrap (a0.n : Int)), .int .u64 (IntKind.u64.wrap a1)]) rfl rfl (ca70 _ _)) ?_
    refine at_call B H (fun y14 w B H => ?_)
    refine stp (v := .tuple #[.int .u64 y14.1, .int .u64 y14.2]) rfl rfl (r_move rfl rfl) ?_
    refine stp (v := .int .u64 y14.1) rfl rfl (r_extract (v1 := .tuple #[.int .u64 y14.1, .int .u64 y14.2]) rfl rfl rfl) ?_
    refine stp (v := .int .u64 y14.2) rfl rfl (r_extract (v1 := .tuple #[.int .u64 y14.1, .int .u64 y14.2]) rfl rfl rfl) ?_
    refine stp (v := .int .u64 y14.1) rfl rfl (r_assign rfl rfl) ?_
    refine stp (v := .int .u64 y14.2) rfl rfl (r_assign rfl rfl) ?_
    refine fin ?_
    refine n11 _ _ ?_
    refine c_seqj (fun a w => ∃ (g : Nat → Value) (N : NP), a = A 48 (updl g [(0, Sl.v a0), (6, .int .u64 y14.2)]) ∧ Bx w N [] ∧ Aft w N (f65_slices_Repeat_int_int.J2 R a0 y14 )) (fun Q17 n15 o16 => ?_) ?_
    ·
      refine c_seqj (fun a w => ∃ (j3_26 : Bool) (g : Nat → Value) (N : NP), a = A 48 (updl g [(0, Sl.v a0), (6, .int .u64 y14.2), (26, .bool j3_26)]) ∧ Bx w N [] ∧ Aft w N (f65_slices_Repeat_int_int.J3 R a0 y14 j3_26)) (fun Q20 n18 o19 => ?_) ?_
      ·
        refine c_region ?_
        refine stp (v := .int .u64 y14.1) rfl rfl (r_move rfl rfl) ?_
        refine stp (v := .bool (decide (0 < y14.1))) rfl rfl (r_gtr (a := y14.1) (b := 0) rfl rfl rfl) ?_
        refine stp (v := .bool (decide (0 < y14.1))) rfl rfl (r_move rfl rfl) ?_
        rcases Bool.eq_false_or_eq_true (decide (0 < y14.1)) with hb21 | hb21
        · replace H := at_itet hb21 H
          refine skp (un rfl rfl rfl rfl (congrArg Value.bool hb21) nofun) rfl ?_
          refine skp (un rfl rfl rfl rfl (congrArg Value.bool hb21) nofun) rfl ?_
          refine stp (v := .bool true) rfl rfl (r_pickt rfl (congrArg Value.bool hb21) rfl) ?_
          refine fin ?_
          exact n18 _ _ ⟨true, _, _, fr_self rfl, B, H⟩
        · replace H := at_itef hb21 H
          refine stp (v := .int .u64 y14.2) (wn rfl rfl rfl rfl (congrArg Value.bool hb21)) rfl (r_move rfl rfl) ?_
          refine stp (v := .bool (decide (9223372036854775807 < y14.2))) (wn rfl rfl rfl rfl (congrArg Value.bool hb21)) rfl (r_gtr (a := y14.2) (b := 9223372036854775807) rfl rfl rfl) ?_
          refine stp (v := .bool (decide (9223372036854775807 < y14.2))) rfl rfl (r_pickf rfl (congrArg Value.bool hb21) rfl) ?_
          refine fin ?_
          exact n18 _ _ ⟨decide (9223372036854775807 < y14.2), _, _, fr_self rfl, B, H⟩
      ·
        rintro _ w ⟨j3_26, g, N, rfl, B, H⟩
        refine c_cond (b := j3_26) rfl (fun hb22 => ?_) (fun hb22 => ?_)
        · replace H := at_itet hb22 H
          refine c_region ?_
          exact (at_ass H).1.elim
        · replace H := at_itef hb22 H
          refine c_skip ?_
          exact n15 _ _ ⟨_, _, fr_self rfl, B, H⟩
    ·
      rintro _ w ⟨g, N, rfl, B, H⟩
      refine c_seq (fun Q25 n23 o24 => ?_)
      refine c_region ?_
      refine stp (v := .int .u64 y14.2) rfl rfl (r_move rfl rfl) ?_
      refine stp (v := .int .i64 (IntKind.i64.wrap y14.2)) rfl rfl (r_convert (v1 := .int .u64 y14.2) rfl rfl (cvi Try.underlying92 Try.underlying3)) ?_
      obtain ⟨y26, w2, hr, B, H⟩ := at_run B H
      refine stp (v := Sl.v y26) rfl rfl (r_makeSlice (v1 := .int .i64 (IntKind.i64.wrap y14.2)) (v2 := .int .i64 (IntKind.i64.wrap y14.2)) rfl rfl rfl hr) ?_
      clear hr
      refine stp (v := Sl.v y26) rfl rfl (r_assign rfl rfl) ?_
      refine fin ?_
      refine n23 _ _ ?_
      refine c_seq (fun Q29 n27 o28 => ?_)
      refine c_region ?_
      refine stp (v := Sl.v y26) rfl rfl (r_move rfl rfl) ?_
      refine stp (v := Sl.v a0) rfl rfl (r_move rfl rfl) ?_
      obtain ⟨y30, w2, hr, B, H⟩ := at_run B H
      refine stp (v := .int .i64 y30) rfl rfl (r_builtin (vs := [Sl.v y26, Sl.v a0]) rfl rfl (fun _ => bi_copy hr)) ?_
      clear hr
      refine stp (v := .int .i64 y30) rfl rfl (r_assign rfl rfl) ?_
      refine fin ?_
      refine n27 _ _ ?_
      refine c_seq (fun Q33 n31 o32 => ?_)
      refine c_block (fun Q37 n34 x36 o35 => ?_)
      refine c_loop (σ := Int) (s0 := y30) (fun s => [(7, Sl.v y26), (8, .int .i64 s)]) (fun s => []) B H rfl ?_
      rintro Q40 next41 s4_8 g w N nx38 o39 B H
      refine c_seq (fun Q44 n42 o43 => ?_)
      refine c_seq (fun Q47 n45 o46 => ?_)
      refine c_region ?_
      refine stp (v := .int .i64 s4_8) rfl rfl (r_move rfl rfl) ?_
      refine stp (v := Sl.v y26) rfl rfl (r_move rfl rfl) ?_
      refine stp (v := .int .i64 (y26.n : Int)) rfl rfl (r_builtin (vs := [Sl.v y26]) rfl rfl (fun _ => lenl Try.underlying24)) ?_
      refine stp (v := .bool (decide (s4_8 < (y26.n : Int)))) rfl rfl (r_lss (a := s4_8) (b := (y26.n : Int)) rfl rfl rfl) ?_
      refine fin ?_
      refine n45 _ _ ?_
      refine c_cond (b := decide (s4_8 < (y26.n : Int))) rfl (fun hb48 => ?_) (fun hb48 => ?_)
      · replace H := at_itet hb48 H
        refine c_skip ?_
        refine n42 _ _ ?_
        refine c_block (fun Q52 n49 x51 o50 => ?_)
        refine c_open 8 (kap [7] []) (fun i b => .pointer (some ⟨b, 0, none⟩)) (fun _ => []) (fun i => []) [0, 1, 2, 3, 4, 5, 6, 7] [] [] _ rfl (by kernel_rfl) (by kernel_rfl) rfl B (flk (by simp) al_nil) ?_
        refine ph_q (v := .int .i64 s4_8) rfl rfl rfl (hv_ok rfl rfl) (qy_val rfl (fun w_ ρ_ hb_ => (r_move rfl rfl))) ?_
        refine ph_q (v := Sl.v y26) rfl rfl rfl (hv_ok rfl rfl) (qy_val rfl (fun w_ ρ_ hb_ => (r_move rfl rfl))) ?_
        refine ph_q (v := .int .i64 s4_8) rfl rfl rfl (hv_ok rfl rfl) (qy_val rfl (fun w_ ρ_ hb_ => (r_move rfl rfl))) ?_
        obtain ⟨ha, H'⟩ := at_ass H
        replace H := H'; clear H'
        have ha53 := ha
        refine ph_q (v := Sl.v (y26.cut 1 s4_8.toNat (y26.n : Int).toNat (y26.c : Int).toNat)) rfl rfl rfl (hv_ok rfl rfl) (qy_val rfl (fun w_ ρ_ hb_ => (r_slice (v1 := Sl.v y26) (lo' := (some (.int .i64 s4_8))) (hi' := none) (mx' := none) rfl rfl rfl rfl rfl (cut100 Try.underlying24 sz3 ha53)))) ?_
        clear ha
        refine ph_q (v := Sl.v y26) rfl rfl rfl (hv_ok rfl rfl) (qy_val rfl (fun w_ ρ_ hb_ => (r_move rfl rfl))) ?_
        refine ph_q (v := .int .i64 s4_8) rfl rfl rfl (hv_ok rfl rfl) (qy_val rfl (fun w_ ρ_ hb_ => (r_move rfl rfl))) ?_
        obtain ⟨ha, H'⟩ := at_ass H
        replace H := H'; clear H'
        have ha54 := ha
        refine ph_q (v := Sl.v (y26.cut 1 (0 : Int).toNat s4_8.toNat (y26.c : Int).toNat)) rfl rfl rfl (hv_ok rfl rfl) (qy_val rfl (fun w_ ρ_ hb_ => (r_slice (v1 := Sl.v y26) (lo' := none) (hi' := (some (.int .i64 s4_8))) (mx' := none) rfl rfl rfl rfl rfl (cut010 Try.underlying24 sz3 ha54)))) ?_
        clear ha
        refine ph_e rfl rfl (fun w55 ρ59 hc hs => ?_)
        obtain ⟨hx, N56, hz57, B58⟩ := hc
        replace H := H.step hz57
        clear hz57
        obtain ⟨y60, w2, hr, B, H⟩ := at_run B58 H
        refine ef_val (v := .int .i64 y60) rfl (r_builtin (vs := [Sl.v (y26.cut 1 s4_8.toNat (y26.n : Int).toNat (y26.c : Int).toNat), Sl.v (y26.cut 1 (0 : Int).toNat s4_8.toNat (y26.c : Int).toNat)]) rfl rfl (fun _ => bi_copy hr)) ?_
        clear hr
        refine ⟨Cls w2 N56 [] [] [], Cls.now hx B, (flk (by simp) al_nil), (pd_anc (re := [0]) (by kernel_rfl) (re_cons rfl rfl rfl (qy_val rfl (fun w_ ρ_ hb_ => (r_move rfl rfl))) re_nil)), ?_⟩
        clear hx
        replace B := B.sub (List.sublist_append_right _ _)
        refine ph_nil0 (fun w N hz B => ?_)
        replace H := H.step hz
        refine stp (v := .int .i64 (IntKind.i64.wrap (s4_8 + y60))) rfl rfl (r_add (a := s4_8) (b := y60) rfl rfl rfl) ?_
        refine stp (v := .int .i64 (IntKind.i64.wrap (s4_8 + y60))) rfl rfl (r_assign rfl rfl) ?_
        refine fin ?_
        refine n49 _ _ ?_
        exact nx38 (IntKind.i64.wrap (s4_8 + y60)) _ _ _ B H rfl
      · replace H := at_itef hb48 H
        refine c_exit (o43 _ _ _ nofun (o39 _ _ _ nofun (x36 _ _ ?_)))
        refine n31 _ _ ?_
        refine c_seq (fun Q63 n61 o62 => ?_)
        refine c_region ?_
        refine stp (v := Sl.v y26) rfl rfl (r_move rfl rfl) ?_
        refine stp (v := Sl.v y26) rfl rfl (r_assign rfl rfl) ?_
        refine fin ?_
        refine n61 _ _ ?_
        refine c_ret ((done (vs := [Sl.v y26]) (.tmp rfl .nil) rfl ⟨_, rfl, H.now⟩))
def f66_spec_l14New.L1 (R : Value → World → Prop) (a0_0 : Sl) (a0_1 : Sl) (a0_2 : Int) (a1_0 : Int) (a1_1 : ByteArray) (a1_2 : Sl) (s1_11 : Int) (next23 : (Int) → Tm) : Tm :=
  T.ite (decide (s1_11 < (a0_0.n : Int))) (T.idx a0_0 s1_11 3 fun (p42 : Addr) => T.ldc (p42.add 0) (Value.int .i64) fun (x43_0 : Int) => T.ldc (p42.add 1) Value.string fun (x43_1 : ByteArray) => T.ldc (p42.add 2) Sl.v fun (x43_2 : Sl) => T.ite (x43_0 == 0) (T.idx a0_0 s1_11 3 fun (p57 : Addr) => T.stc (p57.add 0) (.int .i64 a1_0) (T.stc (p57.add 1) (.string a1_1) (T.stc (p57.add 2) (Sl.v a1_2) (T.ret R (.tuple #[.agg #[Sl.v a0_0, Sl.v a0_1, .int .i64 a0_2], .int .i64 s1_11]))))) (next23 (IntKind.i64.wrap (s1_11 + 1)))) (T.new (.cells #[.int .i64 a1_0, .string a1_1, Sl.v a1_2] 70) fun (g71 : Nat) => T.run Try.prog (Builtin.append_ #[23, 23] 23 #[Sl.v a0_0, Sl.v (⟨some ⟨g71, 0, none⟩, 1, 1⟩ : Sl)]) Sl.v fun (y72 : Sl) => T.ret R (.tuple #[.agg #[Sl.v y72, Sl.v a0_1, .int .i64 a0_2], .int .i64 (IntKind.i64.wrap ((y72.n : Int) - 1))]))
def f66_spec_l14New.T (R : Value → World → Prop) (a0_0 : Sl) (a0_1 : Sl) (a0_2 : Int) (a1_0 : Int) (a1_1 : ByteArray) (a1_2 : Sl) : Tm :=
  T.loop (fun (s : Int) next => f66_spec_l14New.L1 R a0_0 a0_1 a0_2 a1_0 a1_1 a1_2 s (fun (z0 : Int) => next z0)) 0
set_option maxHeartbeats 4000000 in
set_option maxRecDepth 100000 in
theorem f66_spec_l14New.ok (R : Value → World → Prop) (a0_0 : Sl) (a0_1 : Sl) (a0_2 : Int) (a1_0 : Int) (a1_1 : ByteArray) (a1_2 : Sl) (w : World) (h : Aft w (fun _ => False) (f66_spec_l14New.T R a0_0 a0_1 a0_2 a1_0 a1_1 a1_2)) :
    Calls Try.prog 66 (List.toArray [.agg #[Sl.v a0_0, Sl.v a0_1, .int .i64 a0_2], .agg #[.int .i64 a1_0, .string a1_1, Sl.v a1_2]]) w fun e w' => ∃ v, e = .returned v ∧ R v w' := by
  refine enter 38 Try.func66 rfl rfl rfl ?_
  have B := Bx.nil w
  have H := h
  clear h
  refine c_seq (fun Q3 n1 o2 => ?_)
  refine c_region ?_
  obtain ⟨w4, N, g5, hw, hg, B, H⟩ := B.new H 26 #[Sl.v a0_0, Sl.v a0_1, .int .i64 a0_2]
  refine stp (v := .pointer (some ⟨g5, 0, none⟩)) (w' := w4) rfl rfl (r_box (v1 := .agg #[Sl.v a0_0, Sl.v a0_1, .int .i64 a0_2]) rfl rfl (box_run rfl hw hg)) ?_
  clear hw hg
  obtain ⟨w6, N, g7, hw, hg, B, H⟩ := B.new H 70 #[.int .i64 a1_0, .string a1_1, Sl.v a1_2]
  refine stp (v := .pointer (some ⟨g7, 0, none⟩)) (w' := w6) rfl rfl (r_box (v1 := .agg #[.int .i64 a1_0, .string a1_1, Sl.v a1_2]) rfl rfl (box_run rfl hw hg)) ?_
  clear hw hg
  obtain ⟨w8, N, g9, hw, hg, B, H⟩ := B.new H 26 #[Sl.v Sl.nil, Sl.v Sl.nil, .int .i64 0]
  refine stp (v := .pointer (some ⟨g9, 0, none⟩)) (w' := w8) rfl rfl (r_alloc rfl (alloc_run (al26 _) hw hg)) ?_
  clear hw hg
  refine stp (v := .int .i64 0) rfl rfl (r_assign rfl rfl) ?_
  refine fin ?_
  refine n1 _ _ ?_
  refine c_seq (fun Q12 n10 o11 => ?_)
  refine c_seq (fun Q15 n13 o14 => ?_)
  refine c_region ?_
  refine stp (v := .pointer (some ⟨g5, 0, none⟩)) rfl rfl (r_fieldAddr (v1 := .pointer (some ⟨g5, 0, none⟩)) rfl rfl (fld26_0 _ _)) ?_
  refine stp (v := Sl.v a0_0) rfl rfl (r_load (v1 := .pointer (some ⟨g5, 0, none⟩)) rfl rfl (ld1 Try.underlying23 rfl (bx1 (B.get 2 rfl) rfl rfl))) ?_
  refine stp (v := .int .i64 (a0_0.n : Int)) rfl rfl (r_builtin (vs := [Sl.v a0_0]) rfl rfl (fun _ => lenl Try.underlying23)) ?_
  refine stp (v := .int .i64 0) rfl rfl (r_move rfl rfl) ?_
  refine fin ?_
  refine n13 _ _ ?_
  refine c_block (fun Q19 n16 x18 o17 => ?_)
  refine c_loop (σ := Int) (s0 := 0) (fun s => [(2, .pointer (some ⟨g5, 0, none⟩)), (3, .pointer (some ⟨g7, 0, none⟩)), (4, .pointer (some ⟨g9, 0, none⟩)), (9, Sl.v a0_0), (10, .int .i64 (a0_0.n : Int)), (11, .int .i64 s)]) (fun s => [⟨g9, 26, #[Sl.v Sl.nil, Sl.v Sl.nil, .int .i64 0]⟩, ⟨g7, 70, #[.int .i64 a1_0, .string a1_1, Sl.v a1_2]⟩, ⟨g5, 26, #[Sl.v a0_0, Sl.v a0_1, .int .i64 a0_2]⟩]) B H rfl ?_
  rintro Q22 next23 s1_11 g w N nx20 o21 B H
  refine c_seq (fun Q26 n24 o25 => ?_)
  refine c_region ?_
  refine stp (v := .bool (decide (s1_11 < (a0_0.n : Int)))) rfl rfl (r_lss (a := s1_11) (b := (a0_0.n : Int)) rfl rfl rfl) ?_
  refine fin ?_
  refine n24 _ _ ?_
  refine c_seq (fun Q29 n27 o28 => ?_)
  refine c_cond (b := decide (s1_11 < (a0_0.n : Int))) rfl (fun hb30 => ?_) (fun hb30 => ?_)
  · replace H := at_itet hb30 H
    refine c_skip ?_
    refine n27 _ _ ?_
    refine c_seq (fun Q33 n31 o32 => ?_)
    refine c_block (fun Q37 n34 x36 o35 => ?_)
    refine c_seq (fun Q40 n38 o39 => ?_)
    refine c_region ?_
    refine stp (v := .int .i64 s1_11) rfl rfl (r_move rfl rfl) ?_
    obtain ⟨p41, p42, he, h0, h1, hpa, H'⟩ := at_idx' H
    replace H := H'; clear H'
    refine stp (v := .pointer (some p42)) rfl rfl (r_indexAddr (v1 := Sl.v a0_0) (v2 := .int .i64 s1_11) rfl rfl rfl (ix' Try.underlying23 sz70 he h0 h1 hpa)) ?_
    clear he h0 h1 hpa
    obtain ⟨x43_0, hx44, H'⟩ := at_ldc H
    replace H := H'; clear H'
    obtain ⟨x43_1, hx45, H'⟩ := at_ldc H
    replace H := H'; clear H'
    obtain ⟨x43_2, hx46, H'⟩ := at_ldc H
    replace H := H'; clear H'
    refine stp (v := .agg #[.int .i64 x43_0, .string x43_1, Sl.v x43_2]) rfl rfl (r_load (v1 := .pointer (some p42)) rfl rfl (ldn (cs := [.int .i64 x43_0, .string x43_1, Sl.v x43_2]) Try.underlying70 rfl sz70 (cells_start (cells_cons (m := 0) (hx44 _ (Below.refl _ _)) (cells_cons (m := 1) (hx45 _ (Below.refl _ _)) (cells_cons (m := 2) (hx46 _ (Below.refl _ _)) cells_nil)))))) ?_
    obtain ⟨w47, N, g48, hw, hg, B, H⟩ := B.new H 70 #[.int .i64 0, .string (⟨#[]⟩ : ByteArray), Sl.v Sl.nil]
    refine stp (v := .pointer (some ⟨g48, 0, none⟩)) (w' := w47) rfl rfl (r_alloc rfl (alloc_run (al70 _) hw hg)) ?_
    clear hw hg
    refine stp (v := .int .i64 s1_11) rfl rfl (r_assign rfl rfl) ?_
    obtain ⟨w2, hr, B, H⟩ := B.stn H (i := 0) (T := 70) (cs' := #[.int .i64 x43_0, .string x43_1, Sl.v x43_2]) (ad := ⟨g48, 0, none⟩) rfl rfl rfl rfl sz70
    refine stp0 rfl rfl (r_store (v1 := .pointer (some ⟨g48, 0, none⟩)) (v2 := .agg #[.int .i64 x43_0, .string x43_1, Sl.v x43_2]) rfl rfl rfl hr) ?_
    replace B : Bx _ _ [⟨g48, 70, #[.int .i64 x43_0, .string x43_1, Sl.v x43_2]⟩, ⟨g9, 26, #[Sl.v Sl.nil, Sl.v Sl.nil, .int .i64 0]⟩, ⟨g7, 70, #[.int .i64 a1_0, .string a1_1, Sl.v a1_2]⟩, ⟨g5, 26, #[Sl.v a0_0, Sl.v a0_1, .int .i64 a0_2]⟩] := B
    clear hr
    refine fin ?_
    refine n38 _ _ ?_
    refine c_seq (fun Q51 n49 o50 => ?_)
    refine c_region ?_
    refine stp (v := .pointer (some ⟨g48, 0, none⟩)) rfl rfl (r_fieldAddr (v1 := .pointer (some ⟨g48, 0, none⟩)) rfl rfl (fld70_0 _ _)) ?_
    refine stp (v := .int .i64 x43_0) rfl rfl (r_load (v1 := .pointer (some ⟨g48, 0, none⟩)) rfl rfl (ld1 Try.underlying3 rfl (bx1 (B.get 0 rfl) rfl rfl))) ?_
    refine stp (v := .bool (x43_0 == 0)) rfl rfl (r_eql (a := x43_0) (b := 0) rfl rfl rfl) ?_
    refine fin ?_
    refine n49 _ _ ?_
    refine c_cond (b := x43_0 == 0) rfl (fun hb52 => ?_) (fun hb52 => ?_)
    · replace H := at_itet hb52 H
      refine c_seq (fun Q55 n53 o54 => ?_)
      refine c_region ?_
      refine stp (v := .pointer (some ⟨g5, 0, none⟩)) rfl rfl (r_fieldAddr (v1 := .pointer (some ⟨g5, 0, none⟩)) rfl rfl (fld26_0 _ _)) ?_
      refine stp (v := Sl.v a0_0) rfl rfl (r_load (v1 := .pointer (some ⟨g5, 0, none⟩)) rfl rfl (ld1 Try.underlying23 rfl (bx1 (B.get 3 rfl) rfl rfl))) ?_
      refine stp (v := .int .i64 s1_11) rfl rfl (r_move rfl rfl) ?_
      refine stp (v := .agg #[.int .i64 a1_0, .string a1_1, Sl.v a1_2]) rfl rfl (r_load (v1 := .pointer (some ⟨g7, 0, none⟩)) rfl rfl (bxn (B.get 2 rfl) Try.underlying70 rfl sz70)) ?_
      obtain ⟨p56, p57, he, h0, h1, hpa, H'⟩ := at_idx' H
      replace H := H'; clear H'
      refine stp (v := .pointer (some p57)) rfl rfl (r_indexAddr (v1 := Sl.v a0_0) (v2 := .int .i64 s1_11) rfl rfl rfl (ix' Try.underlying23 sz70 he h0 h1 hpa)) ?_
      clear he h0 h1 hpa
      obtain ⟨hc58, hf59, B', H'⟩ := at_stc B H
      replace B := B'; clear B'
      replace H := H'; clear H'
      obtain ⟨hc60, hf61, B', H'⟩ := at_stc B H
      replace B := B'; clear B'
      replace H := H'; clear H'
      obtain ⟨hc62, hf63, B', H'⟩ := at_stc B H
      replace B := B'; clear B'
      replace H := H'; clear H'
      refine stp0 rfl rfl (r_store (v1 := .pointer (some p57)) (v2 := .agg #[.int .i64 a1_0, .string a1_1, Sl.v a1_2]) rfl rfl rfl (stn (N := fun _ => False) sz70 (.cons rfl hc58 hf59 (.cons rfl hc60 hf61 (.cons rfl hc62 hf63 .nil))))) ?_
      refine fin ?_
      refine n53 _ _ ?_
      refine c_seq (fun Q66 n64 o65 => ?_)
      refine c_region ?_
      refine stp (v := .agg #[Sl.v a0_0, Sl.v a0_1, .int .i64 a0_2]) rfl rfl (r_load (v1 := .pointer (some ⟨g5, 0, none⟩)) rfl rfl (bxn (B.get 3 rfl) Try.underlying26 rfl sz26)) ?_
      refine stp (v := .int .i64 s1_11) rfl rfl (r_move rfl rfl) ?_
      obtain ⟨w2, hr, B, H⟩ := B.stn H (i := 1) (T := 26) (cs' := #[Sl.v a0_0, Sl.v a0_1, .int .i64 a0_2]) (ad := ⟨g9, 0, none⟩) rfl rfl rfl rfl sz26
      refine stp0 rfl rfl (r_store (v1 := .pointer (some ⟨g9, 0, none⟩)) (v2 := .agg #[Sl.v a0_0, Sl.v a0_1, .int .i64 a0_2]) rfl rfl rfl hr) ?_
      replace B : Bx _ _ [⟨g48, 70, #[.int .i64 x43_0, .string x43_1, Sl.v x43_2]⟩, ⟨g9, 26, #[Sl.v a0_0, Sl.v a0_1, .int .i64 a0_2]⟩, ⟨g7, 70, #[.int .i64 a1_0, .string a1_1, Sl.v a1_2]⟩, ⟨g5, 26, #[Sl.v a0_0, Sl.v a0_1, .int .i64 a0_2]⟩] := B
      clear hr
      refine stp (v := .int .i64 s1_11) rfl rfl (r_assign rfl rfl) ?_
      refine fin ?_
      refine n64 _ _ ?_
      refine c_ret (o35 _ _ _ nofun (by simp) (o32 _ _ _ nofun (o21 _ _ _ nofun (o17 _ _ _ nofun (by simp) (o11 _ _ _ nofun ((done (vs := [.agg #[Sl.v a0_0, Sl.v a0_1, .int .i64 a0_2], .int .i64 s1_11]) (.cell rfl (bxn (B.get 1 rfl) Try.underlying26 rfl sz26) (.tmp rfl .nil)) rfl ⟨_, rfl, H.now⟩)))))))
    · replace H := at_itef hb52 H
      refine c_skip ?_
      refine n34 _ _ ?_
      refine n31 _ _ ?_
      refine c_region ?_
      refine stp (v := .int .i64 (IntKind.i64.wrap (s1_11 + 1))) rfl rfl (r_add (a := s1_11) (b := 1) rfl rfl rfl) ?_
      refine stp (v := .int .i64 (IntKind.i64.wrap (s1_11 + 1))) rfl rfl (r_move rfl rfl) ?_
      refine fin ?_
      exact nx20 (IntKind.i64.wrap (s1_11 + 1)) _ _ _ (B.sub (List.Sublist.cons _ (List.Sublist.refl _))) H rfl
  · replace H := at_itef hb30 H
    refine c_exit (o28 _ _ _ nofun (o21 _ _ _ nofun (x18 _ _ ?_)))
    refine n10 _ _ ?_
    refine c_seq (fun Q69 n67 o68 => ?_)
    refine c_region ?_
    refine stp (v := .pointer (some ⟨g5, 0, none⟩)) rfl rfl (r_fieldAddr (v1 := .pointer (some ⟨g5, 0, none⟩)) rfl rfl (fld26_0 _ _)) ?_
    refine stp (v := Sl.v a0_0) rfl rfl (r_load (v1 := .pointer (some ⟨g5, 0, none⟩)) rfl rfl (ld1 Try.underlying23 rfl (bx1 (B.get 2 rfl) rfl rfl))) ?_
    refine stp (v := .agg #[.int .i64 a1_0, .string a1_1, Sl.v a1_2]) rfl rfl (r_load (v1 := .pointer (some ⟨g7, 0, none⟩)) rfl rfl (bxn (B.get 1 rfl) Try.underlying70 rfl sz70)) ?_
    obtain ⟨w70, g71, hw, hg, B, H⟩ := at_new' B H
    refine stp (v := Sl.v (⟨some ⟨g71, 0, none⟩, 1, 1⟩ : Sl)) (w' := w70) rfl rfl (r_buildSlice (qs := [(0, .agg #[.int .i64 a1_0, .string a1_1, Sl.v a1_2])]) rfl rfl (bs_run (site7 a1_0 a1_1 a1_2 _) hw hg)) ?_
    clear hw hg
    obtain ⟨y72, w2, hr, B, H⟩ := at_run B H
    refine stp (v := Sl.v y72) rfl rfl (r_builtin (vs := [Sl.v a0_0, Sl.v (⟨some ⟨g71, 0, none⟩, 1, 1⟩ : Sl)]) rfl rfl (fun _ => bi_append hr)) ?_
    clear hr
    refine stp (v := .pointer (some ⟨g5, 0, none⟩)) rfl rfl (r_fieldAddr (v1 := .pointer (some ⟨g5, 0, none⟩)) rfl rfl (fld26_0 _ _)) ?_
    obtain ⟨w2, hr, B, H⟩ := B.st1 H (i := 2) (j := 0) (T := 23) (v := Sl.v y72) (ad := ⟨g5, 0, none⟩) rfl rfl rfl rfl sz23
    refine stp0 rfl rfl (r_store (v1 := .pointer (some ⟨g5, 0, none⟩)) (v2 := Sl.v y72) rfl rfl rfl hr) ?_
    replace B : Bx _ _ [⟨g9, 26, #[Sl.v Sl.nil, Sl.v Sl.nil, .int .i64 0]⟩, ⟨g7, 70, #[.int .i64 a1_0, .string a1_1, Sl.v a1_2]⟩, ⟨g5, 26, #[Sl.v y72, Sl.v a0_1, .int .i64 a0_2]⟩] := B
    clear hr
    refine fin ?_
    refine n67 _ _ ?_
    refine c_seq (fun Q75 n73 o74 => ?_)
    refine c_open 6 (kap [5] []) (fun i b => .pointer (some ⟨b, 0, none⟩)) (fun _ => []) (fun i => []) [0, 1, 2, 3, 4, 5] [] [] _ rfl (by kernel_rfl) (by kernel_rfl) rfl B (flk (by simp) al_nil) ?_
    refine ph_q (v := .agg #[Sl.v y72, Sl.v a0_1, .int .i64 a0_2]) rfl rfl rfl (hv_ok rfl rfl) (qy_val rfl (fun w_ ρ_ hb_ => (r_load (v1 := .pointer (some ⟨g5, 0, none⟩)) rfl rfl (bxn (hb_.get 2 rfl) Try.underlying26 rfl sz26)))) ?_
    refine ph_q (v := .pointer (some ⟨g5, 0, none⟩)) rfl rfl rfl (hv_ok rfl rfl) (qy_val rfl (fun w_ ρ_ hb_ => (r_fieldAddr (v1 := .pointer (some ⟨g5, 0, none⟩)) rfl rfl (fld26_0 _ _)))) ?_
    refine ph_q (v := Sl.v y72) rfl rfl rfl (hv_ok rfl rfl) (qy_val rfl (fun w_ ρ_ hb_ => (r_load (v1 := .pointer (some ⟨g5, 0, none⟩)) rfl rfl (ld1 Try.underlying23 rfl (bx1 (hb_.get 2 rfl) rfl rfl))))) ?_
    refine ph_q (v := .int .i64 (y72.n : Int)) rfl rfl rfl (hv_ok rfl rfl) (qy_val rfl (fun w_ ρ_ hb_ => (r_builtin (vs := [Sl.v y72]) rfl rfl (fun _ => lenl Try.underlying23)))) ?_
    refine ph_q (v := .int .i64 (IntKind.i64.wrap ((y72.n : Int) - 1))) rfl rfl rfl (hv_ok rfl rfl) (qy_val rfl (fun w_ ρ_ hb_ => (r_sub (a := (y72.n : Int)) (b := 1) rfl rfl rfl))) ?_
    refine ph_e rfl rfl (fun w76 ρ80 hc hs => ?_)
    obtain ⟨hx, N77, hz78, B79⟩ := hc
    replace H := H.step hz78
    clear hz78
    replace B79 : Bx _ _ ([⟨g9, 26, #[Sl.v Sl.nil, Sl.v Sl.nil, .int .i64 0]⟩, ⟨g7, 70, #[.int .i64 a1_0, .string a1_1, Sl.v a1_2]⟩, ⟨g5, 26, #[Sl.v y72, Sl.v a0_1, .int .i64 a0_2]⟩] ++ flb [] ρ80) := B79.perm List.perm_append_comm
    obtain ⟨w2, hr, B, H⟩ := B79.stn H (i := 0) (T := 26) (cs' := #[Sl.v y72, Sl.v a0_1, .int .i64 a0_2]) (ad := ⟨g9, 0, none⟩) rfl rfl rfl rfl sz26
    refine ef_skp (w' := w2) rfl (r_store (v1 := .pointer (some ⟨g9, 0, none⟩)) (v2 := .agg #[Sl.v y72, Sl.v a0_1, .int .i64 a0_2]) rfl rfl rfl hr) ?_
    clear hr
    replace B : Bx _ _ ([⟨g9, 26, #[Sl.v y72, Sl.v a0_1, .int .i64 a0_2]⟩, ⟨g7, 70, #[.int .i64 a1_0, .string a1_1, Sl.v a1_2]⟩, ⟨g5, 26, #[Sl.v y72, Sl.v a0_1, .int .i64 a0_2]⟩] ++ flb [] ρ80) := B
    replace B := B.perm List.perm_append_comm
    refine ⟨Cls w2 N77 [⟨g9, 26, #[Sl.v y72, Sl.v a0_1, .int .i64 a0_2]⟩, ⟨g7, 70, #[.int .i64 a1_0, .string a1_1, Sl.v a1_2]⟩, ⟨g5, 26, #[Sl.v y72, Sl.v a0_1, .int .i64 a0_2]⟩] [] [], Cls.now hx B, (flk (by simp) al_nil), (pd_anc (re := [4, 3, 2, 1]) (by kernel_rfl) (re_cons rfl rfl rfl (qy_val rfl (fun w_ ρ_ hb_ => (r_sub (a := (y72.n : Int)) (b := 1) rfl rfl rfl))) (re_cons rfl rfl rfl (qy_val rfl (fun w_ ρ_ hb_ => (r_builtin (vs := [Sl.v y72]) rfl rfl (fun _ => lenl Try.underlying23)))) (re_cons rfl rfl rfl (qy_val rfl (fun w_ ρ_ hb_ => (r_load (v1 := .pointer (some ⟨g5, 0, none⟩)) rfl rfl (ld1 Try.underlying23 rfl (bx1 (hb_.get 2 rfl) rfl rfl))))) (re_cons rfl rfl rfl (qy_val rfl (fun w_ ρ_ hb_ => (r_fieldAddr (v1 := .pointer (some ⟨g5, 0, none⟩)) rfl rfl (fld26_0 _ _)))) re_nil))))), ?_⟩
    clear hx
    replace B := B.sub (List.sublist_append_right _ _)
    refine ph_nil0 (fun w N hz B => ?_)
    replace H := H.step hz
    refine stp (v := .int .i64 (IntKind.i64.wrap ((y72.n : Int) - 1))) rfl rfl (r_assign rfl rfl) ?_
    refine fin ?_
    refine n73 _ _ ?_
    refine c_ret ((done (vs := [.agg #[Sl.v y72, Sl.v a0_1, .int .i64 a0_2], .int .i64 (IntKind.i64.wrap ((y72.n : Int) - 1))]) (.cell rfl (bxn (B.get 0 rfl) Try.underlying26 rfl sz26) (.tmp rfl .nil)) rfl ⟨_, rfl, H.now⟩))
def f67_slices_IndexFunc_int_int.L1 (R : Value → World → Prop) (a0 : Sl) (a1 : Fv) (s1_8 : Int) (next17 : (Int) → Tm) : Tm :=
  T.ite (decide (s1_8 < (a0.n : Int))) (T.idx a0 s1_8 1 fun (p39 : Addr) => T.ldc p39 (Value.int .i64) fun (x40 : Int) => T.callf Try.prog a1 [.int .i64 x40] Value.bool fun (y42 : Bool) => T.ite y42 (T.ret R (.int .i64 s1_8)) (next17 (IntKind.i64.wrap (s1_8 + 1)))) (T.ret R (.int .i64 (-1)))
def f67_slices_IndexFunc_int_int.T (R : Value → World → Prop) (a0 : Sl) (a1 : Fv) : Tm :=
  T.loop (fun (s : Int) next => f67_slices_IndexFunc_int_int.L1 R a0 a1 s (fun (z0 : Int) => next z0)) 0
set_option maxHeartbeats 4000000 in
set_option maxRecDepth 100000 in
theorem f67_slices_IndexFunc_int_int.ok (R : Value → World → Prop) (a0 : Sl) (a1 : Fv) (w : World) (h : Aft w (fun _ => False) (f67_slices_IndexFunc_int_int.T R a0 a1)) :
    Calls Try.prog 67 (List.toArray [Sl.v a0, Fv.v a1]) w fun e w' => ∃ v, e = .returned v ∧ R v w' := by
  refine enter 19 Try.func67 rfl rfl rfl ?_
  have B := Bx.nil w
  have H := h
  clear h
  refine c_seq (fun Q3 n1 o2 => ?_)
  refine c_region ?_
  refine stp (v := .int .i64 0) rfl rfl (r_assign rfl rfl) ?_
  refine fin ?_
  refine n1 _ _ ?_
  refine c_seq (fun Q6 n4 o5 => ?_)
  refine c_seq (fun Q9 n7 o8 => ?_)
  refine c_region ?_
  refine stp (v := Sl.v a0) rfl rfl (r_move rfl rfl) ?_
  refine stp (v := .int .i64 (a0.n : Int)) rfl rfl (r_builtin (vs := [Sl.v a0]) rfl rfl (fun _ => lenl Try.underlying24)) ?_
  refine stp (v := .int .i64 0) rfl rfl (r_move rfl rfl) ?_
  refine fin ?_
  refine n7 _ _ ?_
  refine c_block (fun Q13 n10 x12 o11 => ?_)
  refine c_loop (σ := Int) (s0 := 0) (fun s => [(0, Sl.v a0), (1, Fv.v a1), (7, .int .i64 (a0.n : Int)), (8, .int .i64 s)]) (fun s => []) B H rfl ?_
  rintro Q16 next17 s1_8 g w N nx14 o15 B H
  refine c_seq (fun Q20 n18 o19 => ?_)
  refine c_region ?_
  refine stp (v := .bool (decide (s1_8 < (a0.n : Int)))) rfl rfl (r_lss (a := s1_8) (b := (a0.n : Int)) rfl rfl rfl) ?_
  refine fin ?_
  refine n18 _ _ ?_
  refine c_seq (fun Q23 n21 o22 => ?_)
  refine c_cond (b := decide (s1_8 < (a0.n : Int))) rfl (fun hb24 => ?_) (fun hb24 => ?_)
  · replace H := at_itet hb24 H
    refine c_skip ?_
    refine n21 _ _ ?_
    refine c_seq (fun Q27 n25 o26 => ?_)
    refine c_block (fun Q31 n28 x30 o29 => ?_)
    refine c_seq (fun Q34 n32 o33 => ?_)
    refine c_region ?_
    refine stp (v := .int .i64 s1_8) rfl rfl (r_move rfl rfl) ?_
    refine stp (v := .int .i64 s1_8) rfl rfl (r_assign rfl rfl) ?_
    refine fin ?_
    refine n32 _ _ ?_
    refine c_seq (fun Q37 n35 o36 => ?_)
    refine c_region ?_
    refine stp (v := Fv.v a1) rfl rfl (r_move rfl rfl) ?_
    refine stp (v := Sl.v a0) rfl rfl (r_move rfl rfl) ?_
    refine stp (v := .int .i64 s1_8) rfl rfl (r_move rfl rfl) ?_
    obtain ⟨p38, p39, he, h0, h1, hpa, H'⟩ := at_idx' H
    replace H := H'; clear H'
    refine stp (v := .pointer (some p39)) rfl rfl (r_indexAddr (v1 := Sl.v a0) (v2 := .int .i64 s1_8) rfl rfl rfl (ix' Try.underlying24 sz3 he h0 h1 hpa)) ?_
    clear he h0 h1 hpa
    obtain ⟨x40, hx41, H'⟩ := at_ldc H
    replace H := H'; clear H'
    refine stp (v := .int .i64 x40) rfl rfl (r_load (v1 := .pointer (some p39)) rfl rfl (ld1 Try.underlying3 rfl (hx41 _ (Below.refl _ _)))) ?_
    refine stpc rfl rfl (r_callv (x := .tmp 11) (vs := [.int .i64 x40]) (cs := a1.cs) rfl rfl rfl rfl (callf_ok H)) ?_
    refine at_callf B H (fun y42 w B H => ?_)
    refine fin ?_
    refine n35 _ _ ?_
    refine c_cond (b := y42) rfl (fun hb43 => ?_) (fun hb43 => ?_)
    · replace H := at_itet hb43 H
      refine c_seq (fun Q46 n44 o45 => ?_)
      refine c_region ?_
      refine stp (v := .int .i64 s1_8) rfl rfl (r_move rfl rfl) ?_
      refine stp (v := .int .i64 s1_8) rfl rfl (r_assign rfl rfl) ?_
      refine fin ?_
      refine n44 _ _ ?_
      refine c_ret (o29 _ _ _ nofun (by simp) (o26 _ _ _ nofun (o15 _ _ _ nofun (o11 _ _ _ nofun (by simp) (o5 _ _ _ nofun ((done (vs := [.int .i64 s1_8]) (.tmp rfl .nil) rfl ⟨_, rfl, H.now⟩)))))))
    · replace H := at_itef hb43 H
      refine c_skip ?_
      refine n28 _ _ ?_
      refine n25 _ _ ?_
      refine c_region ?_
      refine stp (v := .int .i64 (IntKind.i64.wrap (s1_8 + 1))) rfl rfl (r_add (a := s1_8) (b := 1) rfl rfl rfl) ?_
      refine stp (v := .int .i64 (IntKind.i64.wrap (s1_8 + 1))) rfl rfl (r_move rfl rfl) ?_
      refine fin ?_
      exact nx14 (IntKind.i64.wrap (s1_8 + 1)) _ _ _ B H rfl
  · replace H := at_itef hb24 H
    refine c_exit (o22 _ _ _ nofun (o15 _ _ _ nofun (x12 _ _ ?_)))
    refine n4 _ _ ?_
    refine c_seq (fun Q49 n47 o48 => ?_)
    refine c_region ?_
    refine stp (v := .int .i64 (-1)) rfl rfl (r_assign rfl rfl) ?_
    refine fin ?_
    refine n47 _ _ ?_
    refine c_ret ((done (vs := [.int .i64 (-1)]) (.tmp rfl .nil) rfl ⟨_, rfl, H.now⟩))
def f68_slices_IndexFunc_impl_Cell_impl_Cell.L1 (R : Value → World → Prop) (a0 : Sl) (a1 : Fv) (s1_8 : Int) (next17 : (Int) → Tm) : Tm :=
  T.ite (decide (s1_8 < (a0.n : Int))) (T.idx a0 s1_8 3 fun (p39 : Addr) => T.ldc (p39.add 0) (Value.int .i64) fun (x40_0 : Int) => T.ldc (p39.add 1) Value.string fun (x40_1 : ByteArray) => T.ldc (p39.add 2) Sl.v fun (x40_2 : Sl) => T.callf Try.prog a1 [.agg #[.int .i64 x40_0, .string x40_1, Sl.v x40_2]] Value.bool fun (y44 : Bool) => T.ite y44 (T.ret R (.int .i64 s1_8)) (next17 (IntKind.i64.wrap (s1_8 + 1)))) (T.ret R (.int .i64 (-1)))
def f68_slices_IndexFunc_impl_Cell_impl_Cell.T (R : Value → World → Prop) (a0 : Sl) (a1 : Fv) : Tm :=
  T.loop (fun (s : Int) next => f68_slices_IndexFunc_impl_Cell_impl_Cell.L1 R a0 a1 s (fun (z0 : Int) => next z0)) 0
set_option maxHeartbeats 4000000 in
set_option maxRecDepth 100000 in
theorem f68_slices_IndexFunc_impl_Cell_impl_Cell.ok (R : Value → World → Prop) (a0 : Sl) (a1 : Fv) (w : World) (h : Aft w (fun _ => False) (f68_slices_IndexFunc_impl_Cell_impl_Cell.T R a0 a1)) :
    Calls Try.prog 68 (List.toArray [Sl.v a0, Fv.v a1]) w fun e w' => ∃ v, e = .returned v ∧ R v w' := by
  refine enter 19 Try.func68 rfl rfl rfl ?_
  have B := Bx.nil w
  have H := h
  clear h
  refine c_seq (fun Q3 n1 o2 => ?_)
  refine c_region ?_
  refine stp (v := .int .i64 0) rfl rfl (r_assign rfl rfl) ?_
  refine fin ?_
  refine n1 _ _ ?_
  refine c_seq (fun Q6 n4 o5 => ?_)
  refine c_seq (fun Q9 n7 o8 => ?_)
  refine c_region ?_
  refine stp (v := Sl.v a0) rfl rfl (r_move rfl rfl) ?_
  refine stp (v := .int .i64 (a0.n : Int)) rfl rfl (r_builtin (vs := [Sl.v a0]) rfl rfl (fun _ => lenl Try.underlying23)) ?_
  refine stp (v := .int .i64 0) rfl rfl (r_move rfl rfl) ?_
  refine fin ?_
  refine n7 _ _ ?_
  refine c_block (fun Q13 n10 x12 o11 => ?_)
  refine c_loop (σ := Int) (s0 := 0) (fun s => [(0, Sl.v a0), (1, Fv.v a1), (7, .int .i64 (a0.n : Int)), (8, .int .i64 s)]) (fun s => []) B H rfl ?_
  rintro Q16 next17 s1_8 g w N nx14 o15 B H
  refine c_seq (fun Q20 n18 o19 => ?_)
  refine c_region ?_
  refine stp (v := .bool (decide (s1_8 < (a0.n : Int)))) rfl rfl (r_lss (a := s1_8) (b := (a0.n : Int)) rfl rfl rfl) ?_
  refine fin ?_
  refine n18 _ _ ?_
  refine c_seq (fun Q23 n21 o22 => ?_)
  refine c_cond (b := decide (s1_8 < (a0.n : Int))) rfl (fun hb24 => ?_) (fun hb24 => ?_)
  · replace H := at_itet hb24 H
    refine c_skip ?_
    refine n21 _ _ ?_
    refine c_seq (fun Q27 n25 o26 => ?_)
    refine c_block (fun Q31 n28 x30 o29 => ?_)
    refine c_seq (fun Q34 n32 o33 => ?_)
    refine c_region ?_
    refine stp (v := .int .i64 s1_8) rfl rfl (r_move rfl rfl) ?_
    refine stp (v := .int .i64 s1_8) rfl rfl (r_assign rfl rfl) ?_
    refine fin ?_
    refine n32 _ _ ?_
    refine c_seq (fun Q37 n35 o36 => ?_)
    refine c_region ?_
    refine stp (v := Fv.v a1) rfl rfl (r_move rfl rfl) ?_
    refine stp (v := Sl.v a0) rfl rfl (r_move rfl rfl) ?_
    refine stp (v := .int .i64 s1_8) rfl rfl (r_move rfl rfl) ?_
    obtain ⟨p38, p39, he, h0, h1, hpa, H'⟩ := at_idx' H
    replace H := H'; clear H'
    refine stp (v := .pointer (some p39)) rfl rfl (r_indexAddr (v1 := Sl.v a0) (v2 := .int .i64 s1_8) rfl rfl rfl (ix' Try.underlying23 sz70 he h0 h1 hpa)) ?_
    clear he h0 h1 hpa
    obtain ⟨x40_0, hx41, H'⟩ := at_ldc H
    replace H := H'; clear H'
    obtain ⟨x40_1, hx42, H'⟩ := at_ldc H
    replace H := H'; clear H'
    obtain ⟨x40_2, hx43, H'⟩ := at_ldc H
    replace H := H'; clear H'
    refine stp (v := .agg #[.int .i64 x40_0, .string x40_1, Sl.v x40_2]) rfl rfl (r_load (v1 := .pointer (some p39)) rfl rfl (ldn (cs := [.int .i64 x40_0, .string x40_1, Sl.v x40_2]) Try.underlying70 rfl sz70 (cells_start (cells_cons (m := 0) (hx41 _ (Below.refl _ _)) (cells_cons (m := 1) (hx42 _ (Below.refl _ _)) (cells_cons (m := 2) (hx43 _ (Below.refl _ _)) cells_nil)))))) ?_
    refine stpc rfl rfl (r_callv (x := .tmp 11) (vs := [.agg #[.int .i64 x40_0, .string x40_1, Sl.v x40_2]]) (cs := a1.cs) rfl rfl rfl rfl (callf_ok H)) ?_
    refine at_callf B H (fun y44 w B H => ?_)
    refine fin ?_
    refine n35 _ _ ?_
    refine c_cond (b := y44) rfl (fun hb45 => ?_) (fun hb45 => ?_)
    · replace H := at_itet hb45 H
      refine c_seq (fun Q48 n46 o47 => ?_)
      refine c_region ?_
      refine stp (v := .int .i64 s1_8) rfl rfl (r_move rfl rfl) ?_
      refine stp (v := .int .i64 s1_8) rfl rfl (r_assign rfl rfl) ?_
      refine fin ?_
      refine n46 _ _ ?_
      refine c_ret (o29 _ _ _ nofun (by simp) (o26 _ _ _ nofun (o15 _ _ _ nofun (o11 _ _ _ nofun (by simp) (o5 _ _ _ nofun ((done (vs := [.int .i64 s1_8]) (.tmp rfl .nil) rfl ⟨_, rfl, H.now⟩)))))))
    · replace H := at_itef hb45 H
      refine c_skip ?_
      refine n28 _ _ ?_
      refine n25 _ _ ?_
      refine c_region ?_
      refine stp (v := .int .i64 (IntKind.i64.wrap (s1_8 + 1))) rfl rfl (r_add (a := s1_8) (b := 1) rfl rfl rfl) ?_
      refine stp (v := .int .i64 (IntKind.i64.wrap (s1_8 + 1))) rfl rfl (r_move rfl rfl) ?_
      refine fin ?_
      exact nx14 (IntKind.i64.wrap (s1_8 + 1)) _ _ _ B H rfl
  · replace H := at_itef hb24 H
    refine c_exit (o22 _ _ _ nofun (o15 _ _ _ nofun (x12 _ _ ?_)))
    refine n4 _ _ ?_
    refine c_seq (fun Q51 n49 o50 => ?_)
    refine c_region ?_
    refine stp (v := .int .i64 (-1)) rfl rfl (r_assign rfl rfl) ?_
    refine fin ?_
    refine n49 _ _ ?_
    refine c_ret ((done (vs := [.int .i64 (-1)]) (.tmp rfl .nil) rfl ⟨_, rfl, H.now⟩))
def f69_impl_Cow_create_1.T (R : Value → World → Prop) (a0_0 : Int) (a0_1 : ByteArray) (a0_2 : Sl) : Tm :=
  T.ret R (.bool (a0_0 == 0))
set_option maxHeartbeats 4000000 in
set_option maxRecDepth 100000 in
theorem f69_impl_Cow_create_1.ok (R : Value → World → Prop) (a0_0 : Int) (a0_1 : ByteArray) (a0_2 : Sl) (w : World) (h : Aft w (fun _ => False) (f69_impl_Cow_create_1.T R a0_0 a0_1 a0_2)) :
    Calls Try.prog 69 (List.toArray [.agg #[.int .i64 a0_0, .string a0_1, Sl.v a0_2]]) w fun e w' => ∃ v, e = .returned v ∧ R v w' := by
  refine enter 6 Try.func69 rfl rfl rfl ?_
  have B := Bx.nil w
  have H := h
  clear h
  refine c_seq (fun Q3 n1 o2 => ?_)
  refine c_region ?_
  obtain ⟨w4, N, g5, hw, hg, B, H⟩ := B.new H 70 #[.int .i64 a0_0, .string a0_1, Sl.v a0_2]
  refine stp (v := .pointer (some ⟨g5, 0, none⟩)) (w' := w4) rfl rfl (r_box (v1 := .agg #[.int .i64 a0_0, .string a0_1, Sl.v a0_2]) rfl rfl (box_run rfl hw hg)) ?_
  clear hw hg
  refine stp (v := .bool false) rfl rfl (r_assign rfl rfl) ?_
  refine fin ?_
  refine n1 _ _ ?_
  refine c_seq (fun Q8 n6 o7 => ?_)
  refine c_region ?_
  refine stp (v := .pointer (some ⟨g5, 0, none⟩)) rfl rfl (r_fieldAddr (v1 := .pointer (some ⟨g5, 0, none⟩)) rfl rfl (fld70_0 _ _)) ?_
  refine stp (v := .int .i64 a0_0) rfl rfl (r_load (v1 := .pointer (some ⟨g5, 0, none⟩)) rfl rfl (ld1 Try.underlying3 rfl (bx1 (B.get 0 rfl) rfl rfl))) ?_
  refine stp (v := .bool (a0_0 == 0)) rfl rfl (r_eql (a := a0_0) (b := 0) rfl rfl rfl) ?_
  refine stp (v := .bool (a0_0 == 0)) rfl rfl (r_assign rfl rfl) ?_
  refine fin ?_
  refine n6 _ _ ?_
  refine c_ret ((done (vs := [.bool (a0_0 == 0)]) (.tmp rfl .nil) rfl ⟨_, rfl, H.now⟩))
def f70_math_bits_Mul.T (R : Value → World → Prop) (a0 : Int) (a1 : Int) : Tm :=
  T.call Try.prog 72 [.int .u64 a0, .int .u64 a1] (fun (z : Int × Int) => .tuple #[.int .u64 z.1, .int .u64 z.2]) fun (y10 : Int × Int) => T.ret R (.tuple #[.int .u64 y10.1, .int .u64 y10.2])
set_option maxHeartbeats 4000000 in
set_option maxRecDepth 100000 in
theorem f70_math_bits_Mul.ok (R : Value → World → Prop) (a0 : Int) (a1 : Int) (w : World) (h : Aft w (fun _ => False) (f70_math_bits_Mul.T R a0 a1)) :
    Calls Try.prog 70 (List.toArray [.int .u64 a0, .int .u64 a1]) w fun e w' => ∃ v, e = .returned v ∧ R v w' := by
  refine enter 30 Try.func70 rfl rfl rfl ?_
  have B := Bx.nil w
  have H := h
  clear h
  refine c_seq (fun Q3 n1 o2 => ?_)
  refine c_region ?_
  refine stp (v := .int .u64 0) rfl rfl (r_assign rfl rfl) ?_
  refine stp (v := .int .u64 0) rfl rfl (r_assign rfl rfl) ?_
  refine fin ?_
  refine n1 _ _ ?_
  refine c_seq (fun Q6 n4 o5 => ?_)
  refine c_condf rfl ?_
  refine c_skip ?_
  refine n4 _ _ ?_
  refine c_seq (fun Q9 n7 o8 => ?_)
  refine c_region ?_
  refine stp (v := .int .u64 a0) rfl rfl (r_move rfl rfl) ?_
  refine stp (v := .int .u64 a1) rfl rfl (r_move rfl rfl) ?_
  refine stpc rfl rfl (r_call (vs := [.int .u64 a0, .int .u64 a1]) rfl rfl (ca72 _ _)) ?_
  refine at_call B H (fun y10 w B H => ?_)
  refine stp (v := .tuple #[.int .u64 y10.1, .int .u64 y10.2]) rfl rfl (r_move rfl rfl) ?_
  refine stp (v := .int .u64 y10.1) rfl rfl (r_extract (v1 := .tuple #[.int .u64 y10.1, .int .u64 y10.2]) rfl rfl rfl) ?_
  refine stp (v := .int .u64 y10.2) rfl rfl (r_extract (v1 := .tuple #[.int .u64 y10.1, .int .u64 y10.2]) rfl rfl rfl) ?_
  refine stp (v := .int .u64 y10.1) rfl rfl (r_assign rfl rfl) ?_
  refine stp (v := .int .u64 y10.2) rfl rfl (r_assign rfl rfl) ?_
  refine fin ?_
  refine n7 _ _ ?_
  refine c_seq (fun Q13 n11 o12 => ?_)
  refine c_region ?_
  refine stp (v := .int .u64 y10.1) rfl rfl (r_move rfl rfl) ?_
  refine stp (v := .int .u64 y10.2) rfl rfl (r_move rfl rfl) ?_
  refine stp (v := .int .u64 y10.1) rfl rfl (r_assign rfl rfl) ?_
  refine stp (v := .int .u64 y10.2) rfl rfl (r_assign rfl rfl) ?_
  refine fin ?_
  refine n11 _ _ ?_
  refine c_ret ((done (vs := [.int .u64 y10.1, .int .u64 y10.2]) (.tmp rfl (.tmp rfl .nil)) rfl ⟨_, rfl, H.now⟩))
def f72_math_bits_Mul64.T (R : Value → World → Prop) (a0 : Int) (a1 : Int) : Tm :=
  T.ret R (.tuple #[.int .u64 (IntKind.u64.wrap ((IntKind.u64.wrap ((IntKind.u64.wrap ((a0 / 2 ^ min (32 : Int).toNat (IntKind.u64.bits)) * (a1 / 2 ^ min (32 : Int).toNat (IntKind.u64.bits)))) + ((IntKind.u64.wrap ((IntKind.u64.wrap ((a0 / 2 ^ min (32 : Int).toNat (IntKind.u64.bits)) * (bits .and .u64 a1 4294967295))) + ((IntKind.u64.wrap ((bits .and .u64 a0 4294967295) * (bits .and .u64 a1 4294967295))) / 2 ^ min (32 : Int).toNat (IntKind.u64.bits)))) / 2 ^ min (32 : Int).toNat (IntKind.u64.bits)))) + ((IntKind.u64.wrap ((bits .and .u64 (IntKind.u64.wrap ((IntKind.u64.wrap ((a0 / 2 ^ min (32 : Int).toNat (IntKind.u64.bits)) * (bits .and .u64 a1 4294967295))) + ((IntKind.u64.wrap ((bits .and .u64 a0 4294967295) * (bits .and .u64 a1 4294967295))) / 2 ^ min (32 : Int).toNat (IntKind.u64.bits)))) 4294967295) + (IntKind.u64.wrap ((bits .and .u64 a0 4294967295) * (a1 / 2 ^ min (32 : Int).toNat (IntKind.u64.bits)))))) / 2 ^ min (32 : Int).toNat (IntKind.u64.bits)))), .int .u64 (IntKind.u64.wrap (a0 * a1))])
set_option maxHeartbeats 4000000 in
set_option maxRecDepth 100000 in
theorem f72_math_bits_Mul64.ok (R : Value → World → Prop) (a0 : Int) (a1 : Int) (w : World) (h : Aft w (fun _ => False) (f72_math_bits_Mul64.T R a0 a1)) :
    Calls Try.prog 72 (List.toArray [.int .u64 a0, .int .u64 a1]) w fun e w' => ∃ v, e = .returned v ∧ R v w' := by
  refine enter 51 Try.func72 rfl rfl rfl ?_
  have B := Bx.nil w
  have H := h
  clear h
  refine c_seq (fun Q3 n1 o2 => ?_)
  refine c_region ?_
  refine stp (v := .int .u64 0) rfl rfl (r_assign rfl rfl) ?_
  refine stp (v := .int .u64 0) rfl rfl (r_assign rfl rfl) ?_
  refine fin ?_
  refine n1 _ _ ?_
  refine c_seq (fun Q6 n4 o5 => ?_)
  refine c_region ?_
  refine stp (v := .int .u64 a0) rfl rfl (r_move rfl rfl) ?_
  refine stp (v := .int .u64 (bits .and .u64 a0 4294967295)) rfl rfl (r_and (a := a0) (b := 4294967295) rfl rfl rfl) ?_
  refine stp (v := .int .u64 (bits .and .u64 a0 4294967295)) rfl rfl (r_assign rfl rfl) ?_
  refine fin ?_
  refine n4 _ _ ?_
  refine c_seq (fun Q9 n7 o8 => ?_)
  refine c_region ?_
  refine stp (v := .int .u64 a0) rfl rfl (r_move rfl rfl) ?_
  refine stp (v := .int .u64 (a0 / 2 ^ min (32 : Int).toNat (IntKind.u64.bits))) rfl rfl (r_shr (a := a0) (b := 32) rfl rfl rfl (by decide)) ?_
  refine stp (v := .int .u64 (a0 / 2 ^ min (32 : Int).toNat (IntKind.u64.bits))) rfl rfl (r_assign rfl rfl) ?_
  refine fin ?_
  refine n7 _ _ ?_
  refine c_seq (fun Q12 n10 o11 => ?_)
  refine c_region ?_
  refine stp (v := .int .u64 a1) rfl rfl (r_move rfl rfl) ?_
  refine stp (v := .int .u64 (bits .and .u64 a1 4294967295)) rfl rfl (r_and (a := a1) (b := 4294967295) rfl rfl rfl) ?_
  refine stp (v := .int .u64 (bits .and .u64 a1 4294967295)) rfl rfl (r_assign rfl rfl) ?_
  refine fin ?_
  refine n10 _ _ ?_
  refine c_seq (fun Q15 n13 o14 => ?_)
  refine c_region ?_
  refine stp (v := .int .u64 a1) rfl rfl (r_move rfl rfl) ?_
  refine stp (v := .int .u64 (a1 / 2 ^ min (32 : Int).toNat (IntKind.u64.bits))) rfl rfl (r_shr (a := a1) (b := 32) rfl rfl rfl (by decide)) ?_
  refine stp (v := .int .u64 (a1 / 2 ^ min (32 : Int).toNat (IntKind.u64.bits))) rfl rfl (r_assign rfl rfl) ?_
  refine fin ?_
  refine n13 _ _ ?_
  refine c_seq (fun Q18 n16 o17 => ?_)
  refine c_region ?_
  refine stp (v := .int .u64 (bits .and .u64 a0 4294967295)) rfl rfl (r_move rfl rfl) ?_
  refine stp (v := .int .u64 (bits .and .u64 a1 4294967295)) rfl rfl (r_move rfl rfl) ?_
  refine stp (v := .int .u64 (IntKind.u64.wrap ((bits .and .u64 a0 4294967295) * (bits .and .u64 a1 4294967295)))) rfl rfl (r_mul (a := bits .and .u64 a0 4294967295) (b := bits .and .u64 a1 4294967295) rfl rfl rfl) ?_
  refine stp (v := .int .u64 (IntKind.u64.wrap ((bits .and .u64 a0 4294967295) * (bits .and .u64 a1 4294967295)))) rfl rfl (r_assign rfl rfl) ?_
  refine fin ?_
  refine n16 _ _ ?_
  refine c_seq (fun Q21 n19 o20 => ?_)
  refine c_region ?_
  refine stp (v := .int .u64 (a0 / 2 ^ min (32 : Int).toNat (IntKind.u64.bits))) rfl rfl (r_move rfl rfl) ?_
  refine stp (v := .int .u64 (bits .and .u64 a1 4294967295)) rfl rfl (r_move rfl rfl) ?_
  refine stp (v := .int .u64 (IntKind.u64.wrap ((a0 / 2 ^ min (32 : Int).toNat (IntKind.u64.bits)) * (bits .and .u64 a1 4294967295)))) rfl rfl (r_mul (a := a0 / 2 ^ min (32 : Int).toNat (IntKind.u64.bits)) (b := bits .and .u64 a1 4294967295) rfl rfl rfl) ?_
  refine stp (v := .int .u64 (IntKind.u64.wrap ((bits .and .u64 a0 4294967295) * (bits .and .u64 a1 4294967295)))) rfl rfl (r_move rfl rfl) ?_
  refine stp (v := .int .u64 ((IntKind.u64.wrap ((bits .and .u64 a0 4294967295) * (bits .and .u64 a1 4294967295))) / 2 ^ min (32 : Int).toNat (IntKind.u64.bits))) rfl rfl (r_shr (a := IntKind.u64.wrap ((bits .and .u64 a0 4294967295) * (bits .and .u64 a1 4294967295))) (b := 32) rfl rfl rfl (by decide)) ?_
  refine stp (v := .int .u64 (IntKind.u64.wrap ((IntKind.u64.wrap ((a0 / 2 ^ min (32 : Int).toNat (IntKind.u64.bits)) * (bits .and .u64 a1 4294967295))) + ((IntKind.u64.wrap ((bits .and .u64 a0 4294967295) * (bits .and .u64 a1 4294967295))) / 2 ^ min (32 : Int).toNat (IntKind.u64.bits))))) rfl rfl (r_add (a := IntKind.u64.wrap ((a0 / 2 ^ min (32 : Int).toNat (IntKind.u64.bits)) * (bits .and .u64 a1 4294967295))) (b := (IntKind.u64.wrap ((bits .and .u64 a0 4294967295) * (bits .and .u64 a1 4294967295))) / 2 ^ min (32 : Int).toNat (IntKind.u64.bits)) rfl rfl rfl) ?_
  refine stp (v := .int .u64 (IntKind.u64.wrap ((IntKind.u64.wrap ((a0 / 2 ^ min (32 : Int).toNat (IntKind.u64.bits)) * (bits .and .u64 a1 4294967295))) + ((IntKind.u64.wrap ((bits .and .u64 a0 4294967295) * (bits .and .u64 a1 4294967295))) / 2 ^ min (32 : Int).toNat (IntKind.u64.bits))))) rfl rfl (r_assign rfl rfl) ?_
  refine fin ?_
  refine n19 _ _ ?_
  refine c_seq (fun Q24 n22 o23 => ?_)
  refine c_region ?_
  refine stp (v := .int .u64 (IntKind.u64.wrap ((IntKind.u64.wrap ((a0 / 2 ^ min (32 : Int).toNat (IntKind.u64.bits)) * (bits .and .u64 a1 4294967295))) + ((IntKind.u64.wrap ((bits .and .u64 a0 4294967295) * (bits .and .u64 a1 4294967295))) / 2 ^ min (32 : Int).toNat (IntKind.u64.bits))))) rfl rfl (r_move rfl rfl) ?_
  refine stp (v := .int .u64 (bits .and .u64 (IntKind.u64.wrap ((IntKind.u64.wrap ((a0 / 2 ^ min (32 : Int).toNat (IntKind.u64.bits)) * (bits .and .u64 a1 4294967295))) + ((IntKind.u64.wrap ((bits .and .u64 a0 4294967295) * (bits .and .u64 a1 4294967295))) / 2 ^ min (32 : Int).toNat (IntKind.u64.bits)))) 4294967295)) rfl rfl (r_and (a := IntKind.u64.wrap ((IntKind.u64.wrap ((a0 / 2 ^ min (32 : Int).toNat (IntKind.u64.bits)) * (bits .and .u64 a1 4294967295))) + ((IntKind.u64.wrap ((bits .and .u64 a0 4294967295) * (bits .and .u64 a1 4294967295))) / 2 ^ min (32 : Int).toNat (IntKind.u64.bits)))) (b := 4294967295) rfl rfl rfl) ?_
  refine stp (v := .int .u64 (bits .and .u64 (IntKind.u64.wrap ((IntKind.u64.wrap ((a0 / 2 ^ min (32 : Int).toNat (IntKind.u64.bits)) * (bits .and .u64 a1 4294967295))) + ((IntKind.u64.wrap ((bits .and .u64 a0 4294967295) * (bits .and .u64 a1 4294967295))) / 2 ^ min (32 : Int).toNat (IntKind.u64.bits)))) 4294967295)) rfl rfl (r_assign rfl rfl) ?_
  refine fin ?_
  refine n22 _ _ ?_
  refine c_seq (fun Q27 n25 o26 => ?_)
  refine c_region ?_
  refine stp (v := .int .u64 (IntKind.u64.wrap ((IntKind.u64.wrap ((a0 / 2 ^ min (32 : Int).toNat (IntKind.u64.bits)) * (bits .and .u64 a1 4294967295))) + ((IntKind.u64.wrap ((bits .and .u64 a0 4294967295) * (bits .and .u64 a1 4294967295))) / 2 ^ min (32 : Int).toNat (IntKind.u64.bits))))) rfl rfl (r_move rfl rfl) ?_
  refine stp (v := .int .u64 ((IntKind.u64.wrap ((IntKind.u64.wrap ((a0 / 2 ^ min (32 : Int).toNat (IntKind.u64.bits)) * (bits .and .u64 a1 4294967295))) + ((IntKind.u64.wrap ((bits .and .u64 a0 4294967295) * (bits .and .u64 a1 4294967295))) / 2 ^ min (32 : Int).toNat (IntKind.u64.bits)))) / 2 ^ min (32 : Int).toNat (IntKind.u64.bits))) rfl rfl (r_shr (a := IntKind.u64.wrap ((IntKind.u64.wrap ((a0 / 2 ^ min (32 : Int).toNat (IntKind.u64.bits)) * (bits .and .u64 a1 4294967295))) + ((IntKind.u64.wrap ((bits .and .u64 a0 4294967295) * (bits .and .u64 a1 4294967295))) / 2 ^ min (32 : Int).toNat (IntKind.u64.bits)))) (b := 32) rfl rfl rfl (by decide)) ?_
  refine stp (v := .int .u64 ((IntKind.u64.wrap ((IntKind.u64.wrap ((a0 / 2 ^ min (32 : Int).toNat (IntKind.u64.bits)) * (bits .and .u64 a1 4294967295))) + ((IntKind.u64.wrap ((bits .and .u64 a0 4294967295) * (bits .and .u64 a1 4294967295))) / 2 ^ min (32 : Int).toNat (IntKind.u64.bits)))) / 2 ^ min (32 : Int).toNat (IntKind.u64.bits))) rfl rfl (r_assign rfl rfl) ?_
  refine fin ?_
  refine n25 _ _ ?_
  refine c_seq (fun Q30 n28 o29 => ?_)
  refine c_region ?_
  refine stp (v := .int .u64 (bits .and .u64 (IntKind.u64.wrap ((IntKind.u64.wrap ((a0 / 2 ^ min (32 : Int).toNat (IntKind.u64.bits)) * (bits .and .u64 a1 4294967295))) + ((IntKind.u64.wrap ((bits .and .u64 a0 4294967295) * (bits .and .u64 a1 4294967295))) / 2 ^ min (32 : Int).toNat (IntKind.u64.bits)))) 4294967295)) rfl rfl (r_move rfl rfl) ?_
  refine stp (v := .int .u64 (bits .and .u64 a0 4294967295)) rfl rfl (r_move rfl rfl) ?_
  refine stp (v := .int .u64 (a1 / 2 ^ min (32 : Int).toNat (IntKind.u64.bits))) rfl rfl (r_move rfl rfl) ?_
  refine stp (v := .int .u64 (IntKind.u64.wrap ((bits .and .u64 a0 4294967295) * (a1 / 2 ^ min (32 : Int).toNat (IntKind.u64.bits))))) rfl rfl (r_mul (a := bits .and .u64 a0 4294967295) (b := a1 / 2 ^ min (32 : Int).toNat (IntKind.u64.bits)) rfl rfl rfl) ?_
  refine stp (v := .int .u64 (IntKind.u64.wrap ((bits .and .u64 (IntKind.u64.wrap ((IntKind.u64.wrap ((a0 / 2 ^ min (32 : Int).toNat (IntKind.u64.bits)) * (bits .and .u64 a1 4294967295))) + ((IntKind.u64.wrap ((bits .and .u64 a0 4294967295) * (bits .and .u64 a1 4294967295))) / 2 ^ min (32 : Int).toNat (IntKind.u64.bits)))) 4294967295) + (IntKind.u64.wrap ((bits .and .u64 a0 4294967295) * (a1 / 2 ^ min (32 : Int).toNat (IntKind.u64.bits))))))) rfl rfl (r_add (a := bits .and .u64 (IntKind.u64.wrap ((IntKind.u64.wrap ((a0 / 2 ^ min (32 : Int).toNat (IntKind.u64.bits)) * (bits .and .u64 a1 4294967295))) + ((IntKind.u64.wrap ((bits .and .u64 a0 4294967295) * (bits .and .u64 a1 4294967295))) / 2 ^ min (32 : Int).toNat (IntKind.u64.bits)))) 4294967295) (b := IntKind.u64.wrap ((bits .and .u64 a0 4294967295) * (a1 / 2 ^ min (32 : Int).toNat (IntKind.u64.bits)))) rfl rfl rfl) ?_
  refine stp (v := .int .u64 (IntKind.u64.wrap ((bits .and .u64 (IntKind.u64.wrap ((IntKind.u64.wrap ((a0 / 2 ^ min (32 : Int).toNat (IntKind.u64.bits)) * (bits .and .u64 a1 4294967295))) + ((IntKind.u64.wrap ((bits .and .u64 a0 4294967295) * (bits .and .u64 a1 4294967295))) / 2 ^ min (32 : Int).toNat (IntKind.u64.bits)))) 4294967295) + (IntKind.u64.wrap ((bits .and .u64 a0 4294967295) * (a1 / 2 ^ min (32 : Int).toNat (IntKind.u64.bits))))))) rfl rfl (r_assign rfl rfl) ?_
  refine fin ?_
  refine n28 _ _ ?_
  refine c_seq (fun Q33 n31 o32 => ?_)
  refine c_region ?_
  refine stp (v := .int .u64 (a0 / 2 ^ min (32 : Int).toNat (IntKind.u64.bits))) rfl rfl (r_move rfl rfl) ?_
  refine stp (v := .int .u64 (a1 / 2 ^ min (32 : Int).toNat (IntKind.u64.bits))) rfl rfl (r_move rfl rfl) ?_
  refine stp (v := .int .u64 (IntKind.u64.wrap ((a0 / 2 ^ min (32 : Int).toNat (IntKind.u64.bits)) * (a1 / 2 ^ min (32 : Int).toNat (IntKind.u64.bits))))) rfl rfl (r_mul (a := a0 / 2 ^ min (32 : Int).toNat (IntKind.u64.bits)) (b := a1 / 2 ^ min (32 : Int).toNat (IntKind.u64.bits)) rfl rfl rfl) ?_
  refine stp (v := .int .u64 ((IntKind.u64.wrap ((IntKind.u64.wrap ((a0 / 2 ^ min (32 : Int).toNat (IntKind.u64.bits)) * (bits .and .u64 a1 4294967295))) + ((IntKind.u64.wrap ((bits .and .u64 a0 4294967295) * (bits .and .u64 a1 4294967295))) / 2 ^ min (32 : Int).toNat (IntKind.u64.bits)))) / 2 ^ min (32 : Int).toNat (IntKind.u64.bits))) rfl rfl (r_move rfl rfl) ?_
  refine stp (v := .int .u64 (IntKind.u64.wrap ((IntKind.u64.wrap ((a0 / 2 ^ min (32 : Int).toNat (IntKind.u64.bits)) * (a1 / 2 ^ min (32 : Int).toNat (IntKind.u64.bits)))) + ((IntKind.u64.wrap ((IntKind.u64.wrap ((a0 / 2 ^ min (32 : Int).toNat (IntKind.u64.bits)) * (bits .and .u64 a1 4294967295))) + ((IntKind.u64.wrap ((bits .and .u64 a0 4294967295) * (bits .and .u64 a1 4294967295))) / 2 ^ min (32 : Int).toNat (IntKind.u64.bits)))) / 2 ^ min (32 : Int).toNat (IntKind.u64.bits))))) rfl rfl (r_add (a := IntKind.u64.wrap ((a0 / 2 ^ min (32 : Int).toNat (IntKind.u64.bits)) * (a1 / 2 ^ min (32 : Int).toNat (IntKind.u64.bits)))) (b := (IntKind.u64.wrap ((IntKind.u64.wrap ((a0 / 2 ^ min (32 : Int).toNat (IntKind.u64.bits)) * (bits .and .u64 a1 4294967295))) + ((IntKind.u64.wrap ((bits .and .u64 a0 4294967295) * (bits .and .u64 a1 4294967295))) / 2 ^ min (32 : Int).toNat (IntKind.u64.bits)))) / 2 ^ min (32 : Int).toNat (IntKind.u64.bits)) rfl rfl rfl) ?_
  refine stp (v := .int .u64 (IntKind.u64.wrap ((bits .and .u64 (IntKind.u64.wrap ((IntKind.u64.wrap ((a0 / 2 ^ min (32 : Int).toNat (IntKind.u64.bits)) * (bits .and .u64 a1 4294967295))) + ((IntKind.u64.wrap ((bits .and .u64 a0 4294967295) * (bits .and .u64 a1 4294967295))) / 2 ^ min (32 : Int).toNat (IntKind.u64.bits)))) 4294967295) + (IntKind.u64.wrap ((bits .and .u64 a0 4294967295) * (a1 / 2 ^ min (32 : Int).toNat (IntKind.u64.bits))))))) rfl rfl (r_move rfl rfl) ?_
  refine stp (v := .int .u64 ((IntKind.u64.wrap ((bits .and .u64 (IntKind.u64.wrap ((IntKind.u64.wrap ((a0 / 2 ^ min (32 : Int).toNat (IntKind.u64.bits)) * (bits .and .u64 a1 4294967295))) + ((IntKind.u64.wrap ((bits .and .u64 a0 4294967295) * (bits .and .u64 a1 4294967295))) / 2 ^ min (32 : Int).toNat (IntKind.u64.bits)))) 4294967295) + (IntKind.u64.wrap ((bits .and .u64 a0 4294967295) * (a1 / 2 ^ min (32 : Int).toNat (IntKind.u64.bits)))))) / 2 ^ min (32 : Int).toNat (IntKind.u64.bits))) rfl rfl (r_shr (a := IntKind.u64.wrap ((bits .and .u64 (IntKind.u64.wrap ((IntKind.u64.wrap ((a0 / 2 ^ min (32 : Int).toNat (IntKind.u64.bits)) * (bits .and .u64 a1 4294967295))) + ((IntKind.u64.wrap ((bits .and .u64 a0 4294967295) * (bits .and .u64 a1 4294967295))) / 2 ^ min (32 : Int).toNat (IntKind.u64.bits)))) 4294967295) + (IntKind.u64.wrap ((bits .and .u64 a0 4294967295) * (a1 / 2 ^ min (32 : Int).toNat (IntKind.u64.bits)))))) (b := 32) rfl rfl rfl (by decide)) ?_
  refine stp (v := .int .u64 (IntKind.u64.wrap ((IntKind.u64.wrap ((IntKind.u64.wrap ((a0 / 2 ^ min (32 : Int).toNat (IntKind.u64.bits)) * (a1 / 2 ^ min (32 : Int).toNat (IntKind.u64.bits)))) + ((IntKind.u64.wrap ((IntKind.u64.wrap ((a0 / 2 ^ min (32 : Int).toNat (IntKind.u64.bits)) * (bits .and .u64 a1 4294967295))) + ((IntKind.u64.wrap ((bits .and .u64 a0 4294967295) * (bits .and .u64 a1 4294967295))) / 2 ^ min (32 : Int).toNat (IntKind.u64.bits)))) / 2 ^ min (32 : Int).toNat (IntKind.u64.bits)))) + ((IntKind.u64.wrap ((bits .and .u64 (IntKind.u64.wrap ((IntKind.u64.wrap ((a0 / 2 ^ min (32 : Int).toNat (IntKind.u64.bits)) * (bits .and .u64 a1 4294967295))) + ((IntKind.u64.wrap ((bits .and .u64 a0 4294967295) * (bits .and .u64 a1 4294967295))) / 2 ^ min (32 : Int).toNat (IntKind.u64.bits)))) 4294967295) + (IntKind.u64.wrap ((bits .and .u64 a0 4294967295) * (a1 / 2 ^ min (32 : Int).toNat (IntKind.u64.bits)))))) / 2 ^ min (32 : Int).toNat (IntKind.u64.bits))))) rfl rfl (r_add (a := IntKind.u64.wrap ((IntKind.u64.wrap ((a0 / 2 ^ min (32 : Int).toNat (IntKind.u64.bits)) * (a1 / 2 ^ min (32 : Int).toNat (IntKind.u64.bits)))) + ((IntKind.u64.wrap ((IntKind.u64.wrap ((a0 / 2 ^ min (32 : Int).toNat (IntKind.u64.bits)) * (bits .and .u64 a1 4294967295))) + ((IntKind.u64.wrap ((bits .and .u64 a0 4294967295) * (bits .and .u64 a1 4294967295))) / 2 ^ min (32 : Int).toNat (IntKind.u64.bits)))) / 2 ^ min (32 : Int).toNat (IntKind.u64.bits)))) (b := (IntKind.u64.wrap ((bits .and .u64 (IntKind.u64.wrap ((IntKind.u64.wrap ((a0 / 2 ^ min (32 : Int).toNat (IntKind.u64.bits)) * (bits .and .u64 a1 4294967295))) + ((IntKind.u64.wrap ((bits .and .u64 a0 4294967295) * (bits .and .u64 a1 4294967295))) / 2 ^ min (32 : Int).toNat (IntKind.u64.bits)))) 4294967295) + (IntKind.u64.wrap ((bits .and .u64 a0 4294967295) * (a1 / 2 ^ min (32 : Int).toNat (IntKind.u64.bits)))))) / 2 ^ min (32 : Int).toNat (IntKind.u64.bits)) rfl rfl rfl) ?_
  refine stp (v := .int .u64 (IntKind.u64.wrap ((IntKind.u64.wrap ((IntKind.u64.wrap ((a0 / 2 ^ min (32 : Int).toNat (IntKind.u64.bits)) * (a1 / 2 ^ min (32 : Int).toNat (IntKind.u64.bits)))) + ((IntKind.u64.wrap ((IntKind.u64.wrap ((a0 / 2 ^ min (32 : Int).toNat (IntKind.u64.bits)) * (bits .and .u64 a1 4294967295))) + ((IntKind.u64.wrap ((bits .and .u64 a0 4294967295) * (bits .and .u64 a1 4294967295))) / 2 ^ min (32 : Int).toNat (IntKind.u64.bits)))) / 2 ^ min (32 : Int).toNat (IntKind.u64.bits)))) + ((IntKind.u64.wrap ((bits .and .u64 (IntKind.u64.wrap ((IntKind.u64.wrap ((a0 / 2 ^ min (32 : Int).toNat (IntKind.u64.bits)) * (bits .and .u64 a1 4294967295))) + ((IntKind.u64.wrap ((bits .and .u64 a0 4294967295) * (bits .and .u64 a1 4294967295))) / 2 ^ min (32 : Int).toNat (IntKind.u64.bits)))) 4294967295) + (IntKind.u64.wrap ((bits .and .u64 a0 4294967295) * (a1 / 2 ^ min (32 : Int).toNat (IntKind.u64.bits)))))) / 2 ^ min (32 : Int).toNat (IntKind.u64.bits))))) rfl rfl (r_assign rfl rfl) ?_
  refine fin ?_
  refine n31 _ _ ?_
  refine c_seq (fun Q36 n34 o35 => ?_)
  refine c_region ?_
  refine stp (v := .int .u64 a0) rfl rfl (r_move rfl rfl) ?_
  refine stp (v := .int .u64 a1) rfl rfl (r_move rfl rfl) ?_
  refine stp (v := .int .u64 (IntKind.u64.wrap (a0 * a1))) rfl rfl (r_mul (a := a0) (b := a1) rfl rfl rfl) ?_
  refine stp (v := .int .u64 (IntKind.u64.wrap (a0 * a1))) rfl rfl (r_assign rfl rfl) ?_
  refine fin ?_
  refine n34 _ _ ?_
  refine c_ret ((done (vs := [.int .u64 (IntKind.u64.wrap ((IntKind.u64.wrap ((IntKind.u64.wrap ((a0 / 2 ^ min (32 : Int).toNat (IntKind.u64.bits)) * (a1 / 2 ^ min (32 : Int).toNat (IntKind.u64.bits)))) + ((IntKind.u64.wrap ((IntKind.u64.wrap ((a0 / 2 ^ min (32 : Int).toNat (IntKind.u64.bits)) * (bits .and .u64 a1 4294967295))) + ((IntKind.u64.wrap ((bits .and .u64 a0 4294967295) * (bits .and .u64 a1 4294967295))) / 2 ^ min (32 : Int).toNat (IntKind.u64.bits)))) / 2 ^ min (32 : Int).toNat (IntKind.u64.bits)))) + ((IntKind.u64.wrap ((bits .and .u64 (IntKind.u64.wrap ((IntKind.u64.wrap ((a0 / 2 ^ min (32 : Int).toNat (IntKind.u64.bits)) * (bits .and .u64 a1 4294967295))) + ((IntKind.u64.wrap ((bits .and .u64 a0 4294967295) * (bits .and .u64 a1 4294967295))) / 2 ^ min (32 : Int).toNat (IntKind.u64.bits)))) 4294967295) + (IntKind.u64.wrap ((bits .and .u64 a0 4294967295) * (a1 / 2 ^ min (32 : Int).toNat (IntKind.u64.bits)))))) / 2 ^ min (32 : Int).toNat (IntKind.u64.bits)))), .int .u64 (IntKind.u64.wrap (a0 * a1))]) (.tmp rfl (.tmp rfl .nil)) rfl ⟨_, rfl, H.now⟩))
end Go.Proofs.Ytboccoihmginiaa

namespace Go.Sol
open Go.RowKit
set_option linter.unusedSimpArgs false
set_option linter.unusedVariables false
/-- a slice's cells, wherever they lie -/
def Rd (w : World) (sz : Nat) (s : Sl) (xs : List Value) : Prop := xs.length = s.n * sz ∧ s.n ≤ maxLen ∧ (s.n = 0 ∨ ∃ ad, s.A = some ad ∧ ∀ j v, xs[j]? = some v → w.cell? (ad.add j) = some v)
structure Ch where
  e : TypeId
  sz : Nat
  s : Sl
  xs : List Value
def Sl.fp (s : Sl) : List Nat := match s.A with
  | some a => if s.c = 0 then [] else [a.block]
  | none => []
def Ch.ok (w : World) (c : Ch) : Prop := c.xs.length = c.s.n * c.sz ∧ c.s.n ≤ c.s.c ∧ c.s.c ≤ maxLen ∧
  (c.s.c = 0 ∨ ∃ g cur, c.s.A = some ⟨g, 0, none⟩ ∧ w.heap[g]? = some (.cells cur c.e (0, 0)) ∧ cur.size = c.s.c * c.sz ∧ cur.toList.take (c.s.n * c.sz) = c.xs)
def fps (cs : List Ch) : List Nat := cs.flatMap (·.s.fp)
structure Own (w : World) (N : NP) (cs : List Ch) : Prop where
  ok : ∀ c ∈ cs, c.ok w
  nd : (fps cs).Nodup
  nn : ∀ b ∈ fps cs, ¬ N b
abbrev NO : NP := fun _ => False
structure Upd (w w' : World) (F : List Nat) : Prop where
  os : w'.os = w.os
  tape : w'.tape = w.tape
  output : w'.output = w.output
  size : w.heap.size ≤ w'.heap.size
  keep : ∀ b, b < w.heap.size → b ∉ F → w'.heap[b]? = w.heap[b]?
theorem Upd.refl (w : World) (F : List Nat) : Upd w w F := ⟨rfl, rfl, rfl, Nat.le_refl _, fun _ _ _ => rfl⟩
theorem Upd.below {w w' : World} (h : Upd w w' []) : Below w.heap.size w w' := ⟨h.os, h.tape, h.output, h.size, fun k hk => h.keep k hk (by simp)⟩
theorem Upd.of_below {w w' : World} (h : Below w.heap.size w w') : Upd w w' [] := ⟨h.os, h.tape, h.output, h.size, fun k hk _ => h.block k hk⟩
/-- what a call may have done with the rows that were given it -/
structure Res (w : World) (cs : List Ch) (w' : World) (cs' : List Ch) : Prop where
  upd : Upd w w' (fps cs)
  own : Own w' NO cs'
  src : ∀ b ∈ fps cs', b ∈ fps cs ∨ w.heap.size ≤ b
/-- the state within a call -/
structure Stt (w0 : World) (cs0 : List Ch) (cs : List Ch) (w : World) (N : NP) : Prop where
  upd : Upd w0 w (fps cs0)
  nw : ∀ b, N b → w0.heap.size ≤ b
  own : Own w N cs
  src : ∀ b ∈ fps cs, b ∈ fps cs0 ∨ w0.heap.size ≤ b
theorem Ch.ok.lt {w : World} {c : Ch} (h : c.ok w) : ∀ b ∈ c.s.fp, b < w.heap.size := by
  intro b hb
  obtain ⟨_, _, _, h4⟩ := h
  unfold Sl.fp at hb
  rcases h4 with h4 | ⟨g, cur, hA, hg, _⟩
  · cases hA : c.s.A <;> simp [hA, h4] at hb
  · rw [hA] at hb
    simp only at hb
    split at hb
    · simp at hb
    · simp at hb; subst hb; exact (Array.getElem?_eq_some_iff.1 hg).1
theorem mem_fps {cs : List Ch} {b : Nat} : b ∈ fps cs ↔ ∃ c ∈ cs, b ∈ c.s.fp := by unfold fps; simp [List.mem_flatMap]
theorem Own.lt {w : World} {N : NP} {cs : List Ch} (h : Own w N cs) : ∀ b ∈ fps cs, b < w.heap.size := by
  intro b hb
  obtain ⟨c, hc, hb⟩ := mem_fps.1 hb
  exact (h.ok c hc).lt b hb
theorem Ch.ok.keep {w w' : World} {c : Ch} (h : c.ok w) (hk : ∀ b ∈ c.s.fp, w'.heap[b]? = w.heap[b]?) : c.ok w' := by
  obtain ⟨h1, h2, h3, h4⟩ := h
  refine ⟨h1, h2, h3, ?_⟩
  rcases h4 with h4 | ⟨g, cur, hA, hg, h5⟩
  · exact .inl h4
  · by_cases hc : c.s.c = 0
    · exact .inl hc
    · exact .inr ⟨g, cur, hA, (hk g (by simp [Sl.fp, hA, hc])).trans hg, h5⟩
theorem Own.keep {w w' : World} {N N' : NP} {cs : List Ch} (h : Own w N cs) (hk : ∀ b ∈ fps cs, w'.heap[b]? = w.heap[b]?) (hn : ∀ b ∈ fps cs, ¬ N' b) : Own w' N' cs :=
  ⟨fun c hc => (h.ok c hc).keep fun b hb => hk b (mem_fps.2 ⟨c, hc, hb⟩), h.nd, hn⟩
theorem Own.nz {w w' : World} {N N' : NP} {cs : List Ch} (h : Own w N cs) (hz : Nz w N w' N') : Own w' N' cs :=
  h.keep (fun b hb => hz.keep b (h.lt b hb) (h.nn b hb)) fun b hb hn => (hz.priv b hn).elim (h.nn b hb) fun h2 => by have := h.lt b hb; omega
theorem Own.no {w : World} {N : NP} {cs : List Ch} (h : Own w N cs) : Own w NO cs := ⟨h.ok, h.nd, fun _ _ h => h⟩
theorem fps_sub {cs cs' : List Ch} (hs : cs'.Sublist cs) : (fps cs').Sublist (fps cs) := by
  unfold fps
  induction hs with
  | slnil => exact List.Sublist.refl _
  | cons a _ ih => rw [List.flatMap_cons]; exact ih.trans (List.sublist_append_right _ _)
  | cons_cons a _ ih => rw [List.flatMap_cons, List.flatMap_cons]; exact List.Sublist.append (List.Sublist.refl _) ih
theorem Own.sub {w : World} {N : NP} {cs cs' : List Ch} (h : Own w N cs) (hs : cs'.Sublist cs) : Own w N cs' :=
  ⟨fun c hc => h.ok c (hs.subset hc), h.nd.sublist (fps_sub hs), fun b hb => h.nn b ((fps_sub hs).subset hb)⟩
theorem Own.perm {w : World} {N : NP} {cs cs' : List Ch} (h : Own w N cs) (hs : cs'.Perm cs) : Own w N cs' :=
  ⟨fun c hc => h.ok c (hs.subset hc), ((hs.flatMap_right _).nodup_iff).2 h.nd, fun b hb => h.nn b ((hs.flatMap_right _).subset hb)⟩
theorem fps_append (a b : List Ch) : fps (a ++ b) = fps a ++ fps b := by unfold fps; simp
theorem Own.left {w : World} {N : NP} {a b : List Ch} (h : Own w N (a ++ b)) : Own w N a := h.sub (List.sublist_append_left _ _)
theorem Own.right {w : World} {N : NP} {a b : List Ch} (h : Own w N (a ++ b)) : Own w N b := h.sub (List.sublist_append_right _ _)
theorem Own.nil (w : World) (N : NP) : Own w N [] := ⟨fun _ h => by simp at h, by simp [fps], fun _ h => by simp [fps] at h⟩
/-- rows apart -/
theorem Own.app {w : World} {N : NP} {a b : List Ch} (ha : Own w N a) (hb : Own w N b) (hd : ∀ x ∈ fps a, x ∉ fps b) : Own w N (a ++ b) := by
  refine ⟨fun c hc => (List.mem_append.1 hc).elim (ha.ok c) (hb.ok c), ?_, fun x hx => ?_⟩
  · rw [fps_append]
    exact List.nodup_append.2 ⟨ha.nd, hb.nd, fun x hx y hy e => hd x hx (e ▸ hy)⟩
  · rw [fps_append] at hx
    exact (List.mem_append.1 hx).elim (ha.nn x) (hb.nn x)
/-- a call upon some of the rows -/
theorem Own.res {w w' : World} {N : NP} {cs rest cs' : List Ch} (h : Own w N (cs ++ rest)) (r : Res w cs w' cs') : Own w' (NI w N) (cs' ++ rest) := by
  have hnd := h.nd
  rw [fps_append] at hnd
  have hdis := (List.nodup_append.1 hnd).2.2
  refine Own.app ⟨r.own.ok, r.own.nd, fun b hb hn => ?_⟩ (h.right.keep (fun b hb => r.upd.keep b (h.right.lt b hb) fun hb2 => hdis b hb2 b hb rfl) fun b hb hn => h.right.nn b hb hn.1) fun b hb hb2 => ?_
  · rcases r.src b hb with h1 | h1
    · exact h.left.nn b h1 hn.1
    · have := hn.2; omega
  · rcases r.src b hb with h1 | h1
    · exact hdis b h1 b hb2 rfl
    · have := h.right.lt b hb2; omega
theorem Rd.upd {w w' : World} {F : List Nat} {sz : Nat} {s : Sl} {xs : List Value} (h : Rd w sz s xs) (hu : Upd w w' F) (hF : s.n = 0 ∨ sz = 0 ∨ ∀ ad, s.A = some ad → ad.block ∉ F) : Rd w' sz s xs := by
  refine ⟨h.1, h.2.1, ?_⟩
  rcases h.2.2 with h0 | ⟨ad, hA, hc⟩
  · exact .inl h0
  · rcases hF with h0 | h0 | hF
    · exact .inl h0
    · refine .inr ⟨ad, hA, fun j v hj => ?_⟩
      have : xs = [] := List.eq_nil_of_length_eq_zero (by rw [h.1, h0]; simp)
      rw [this] at hj; simp at hj
    · refine .inr ⟨ad, hA, fun j v hj => ?_⟩
      have h1 := hc j v hj
      have hb : (ad.add j).block = ad.block := by unfold Addr.add; split <;> rfl
      rw [World.cell?_of_block (w := w) (hu.keep _ (World.block_lt_of_cell? w _ h1) (by rw [hb]; exact hF ad hA))]
      exact h1
theorem Rd.below {w w' : World} {sz : Nat} {s : Sl} {xs : List Value} (h : Rd w sz s xs) (hu : Below w.heap.size w w') : Rd w' sz s xs := h.upd (Upd.of_below hu) (.inr (.inr fun _ _ h => by simp at h))
theorem add_block (ad : Addr) (j : Nat) : (ad.add j).block = ad.block := by unfold Addr.add; split <;> rfl
theorem Ch.ok.cell {w : World} {c : Ch} (h : c.ok w) {ad : Addr} (hA : c.s.A = some ad) {j : Nat} {v : Value} (hj : c.xs[j]? = some v) : w.cell? (ad.add j) = some v := by
  obtain ⟨h1, h2, h3, h4⟩ := h
  have hjl : j < c.s.n * c.sz := by rw [← h1]; exact (List.getElem?_eq_some_iff.1 hj).1
  rcases h4 with h4 | ⟨g, cur, hA', hg, hsz, htk⟩
  · have : c.s.n = 0 := by omega
    rw [this] at hjl; simp at hjl
  · rw [hA] at hA'
    obtain rfl := Option.some.inj hA'
    rw [Addr.add_mid, Nat.zero_add, cell_of_row w g j cur c.e (0, 0) hg]
    rw [← htk, List.getElem?_take, if_pos hjl] at hj
    simpa using hj
theorem Ch.ok.rd {w : World} {c : Ch} (h : c.ok w) : Rd w c.sz c.s c.xs := by
  refine ⟨h.1, Nat.le_trans h.2.1 h.2.2.1, ?_⟩
  rcases h.2.2.2 with h4 | ⟨g, cur, hA, _⟩
  · have := h.2.1
    exact .inl (by omega)
  · exact .inr ⟨_, hA, fun j v hj => h.cell hA hj⟩
end Go.Sol

namespace Go.Sol
open Go.RowKit
set_option linter.unusedSimpArgs false
set_option linter.unusedVariables false
theorem split_at {α : Type} {l : List α} {i : Nat} {c : α} (hi : l[i]? = some c) : l = l.take i ++ c :: l.drop (i + 1) := by
  obtain ⟨hil, rfl⟩ := List.getElem?_eq_some_iff.1 hi
  rw [← List.drop_eq_getElem_cons hil, List.take_append_drop]
structure TyE (P : Program) (t e sz bytes : Nat) (z : Value) : Prop where
  ht : P.underlying t = some (.slice e)
  hi : (P.info? e).map (fun i => (i.size, i.bytes, i.zero)) = some (sz, bytes, some z)
  hz : z.cells.size = sz
  h0 : 0 < sz
  h1 : 0 < bytes
theorem app_run {P : Program} {w : World} {t e sz bytes ty : Nat} {z : Value} (τ : TyE P t e sz bytes z) {c : Ch} (hc : c.ok w) (he : c.e = e) (hs : c.sz = sz) {x : Sl} {news : List Value} (r : Rd w sz x news) (h1 : ∀ u ∈ news, u.oneCell' = true)
    (hb : (c.s.n + x.n) * bytes ≤ 140737488355328) :
    ∃ s' w', (Builtin.append_ #[t, t] ty #[Sl.v c.s, Sl.v x]).run P w = .ok (Sl.v s') w' ∧ s'.n = c.s.n + x.n ∧ Upd w w' c.s.fp ∧ (Ch.mk e sz s' (c.xs ++ news)).ok w' ∧ ∀ b ∈ s'.fp, b ∈ c.s.fp ∨ b = w.heap.size := by
  obtain ⟨ce, csz, s, xs⟩ := c
  simp only at he hs hb ⊢
  subst he hs
  obtain ⟨i, hi, hi2⟩ := Option.map_eq_some_iff.1 τ.hi
  simp only [Prod.mk.injEq] at hi2
  obtain ⟨hi1, hi2, hi3⟩ := hi2
  have hlen : s.n + x.n ≤ maxLen := by
    have : s.n + x.n ≤ (s.n + x.n) * bytes := Nat.le_mul_of_pos_right _ τ.h1
    simp only [maxLen]; omega
  obtain ⟨o1, o2, o3, o4⟩ := hc
  simp only at o1 o2 o3 o4
  by_cases hm : x.n = 0
  · have hn : news = [] := List.eq_nil_of_length_eq_zero (by rw [r.1, hm]; simp)
    subst hn
    have hsrc : Src P i.size t (Sl.v x) 0 [] w := by
      unfold Sl.v
      rw [hm]
      cases hA : x.A with
      | none => exact Src.ofNil w τ.ht _
      | some a => exact Src.ofSlice w τ.ht a 0 _ [] (by simp) (fun j u h => by simp at h) (fun u h => by simp at h)
    refine ⟨s, w, run_append_nothing w t t ty ce i τ.ht hi s.A s.n s.c o2 _ hsrc, by omega, Upd.refl w _, ?_, fun b hb => .inl hb⟩
    simp only [List.append_nil]
    exact ⟨o1, o2, o3, o4⟩
  · obtain ⟨a, hA, hcells⟩ := r.2.2.resolve_left hm
    have hxv : Sl.v x = .slice (some a) x.n x.c := by unfold Sl.v; rw [hA]
    by_cases hc0 : s.c = 0
    · have hn0 : s.n = 0 := by omega
      have hxs : xs = [] := List.eq_nil_of_length_eq_zero (by rw [o1, hn0]; simp)
      subst hxs
      have hold : (Builtin.firstCells i.size s.n (.slice s.A s.n s.c)).run P w.drew = .ok ([] : List Value).toArray w.drew := by
        rw [hn0, hc0]
        cases s.A with
        | none => exact run_firstCells_none w.drew i.size 0 0 0
        | some b => exact run_firstCells_some w.drew i.size 0 b 0 0 [] (by simp) (fun j u h => by simp at h)
      have hsrc : Src P i.size t (Sl.v x) x.n news w := by
        rw [hxv]
        exact Src.ofSlice w τ.ht a x.n x.c news (by rw [r.1, hi1]) hcells h1
      have hfit := growslice_fits (need := s.n + x.n) (old := s.c) (bytes := i.bytes) (by omega) (by rw [hi2]; exact hb)
      have hr := run_append_grow_src (P := P) w t t ty ce i z τ.ht hi hi3 s.A s.n s.c [] hold (Sl.v x) x.n news hsrc (by omega) (by simp only [maxLen] at hlen; omega) (by omega)
      refine ⟨⟨some ⟨w.heap.size, 0, none⟩, s.n + x.n, grownCap w (s.n + x.n) s.c ce⟩, _, hr, rfl, ⟨rfl, rfl, rfl, by simp, fun b hb _ => Below.heap_alloc w.drew _ b hb⟩, ?_, fun b hb => ?_⟩
      · have hge := grownCap_ge w (s.n + x.n) s.c ce
        have hcm : grownCap w (s.n + x.n) s.c ce ≤ maxLen := grownCap_le_maxLen w (s.n + x.n) s.c ce hlen
        refine ⟨?_, hge, hcm, .inr ⟨w.heap.size, _, rfl, heap_alloc_new w.drew _, ?_, ?_⟩⟩
        · simp only [List.nil_append, hn0, Nat.zero_add]; exact r.1
        · simp only [List.nil_append, Array.size_append, List.size_toArray, size_zeroCells, r.1, τ.hz]
          rw [← Nat.add_mul]; congr 1; omega
        · simp only [List.nil_append, Array.toList_append, hn0, Nat.zero_add]
          rw [← r.1]
          exact List.take_left
      · right
        unfold Sl.fp at hb
        simp only at hb
        split at hb <;> simp at hb
        exact hb
    · obtain ⟨g, cur, hsA, hg, hsz, htk⟩ := o4.resolve_left hc0
      have hsv : Sl.v s = .slice (some ⟨g, 0, none⟩) s.n s.c := by unfold Sl.v; rw [hsA]
      have hown : w.ownsRow 0 ce csz (Sl.v s) s.n xs := ⟨o1, .inr ⟨g, s.c, cur, hsv, Nat.zero_le _, hg, o2, o3, hsz, htk⟩⟩
      obtain ⟨v', w', hr, ⟨hl', hform⟩, hgr, hnil, hat⟩ := run_append_own_at w 0 t ty ce i z csz bytes τ.ht hi hi3 hi1 hi2 τ.hz τ.h0 (Sl.v s) s.n xs hown a x.n x.c news r.1 hcells h1 hlen hb (Nat.zero_le _)
      rw [← hxv] at hr
      have hfp : s.fp = [g] := by simp [Sl.fp, hsA, hc0]
      have hob : (Sl.v s).ownBlock = some g := by rw [hsv]; rfl
      rcases hform with ⟨rfl, h0⟩ | ⟨g', cap', cur', rfl, _, hg', hnc', hcm', hsz', htk'⟩
      · omega
      · refine ⟨⟨some ⟨g', 0, none⟩, s.n + x.n, cap'⟩, w', hr, rfl, ⟨hgr.os, hgr.tape, hgr.output, hgr.size, fun b hb hbf => hgr.block b hb ?_⟩, ⟨hl', hnc', hcm', .inr ⟨g', cur', rfl, hg', hsz', htk'⟩⟩, fun b hb => ?_⟩
        · rw [hob]
          rw [hfp] at hbf
          simpa using hbf
        · have : b = g' := by
            unfold Sl.fp at hb
            simp only at hb
            split at hb <;> simp at hb
            exact hb
          subst this
          rw [hfp]
          rcases hat with h | h
          · rw [hob] at h
            simp [Value.ownBlock] at h
            simp [h]
          · simp [Value.ownBlock] at h
            exact .inr h
section
variable {P : Program} {w0 w w' : World} {cs0 cs cs' rest : List Ch} {N N' : NP}
theorem Stt.start (o : Own w NO cs) : Stt w cs cs w NO := ⟨Upd.refl w _, fun _ h => h.elim, o, fun b hb => .inl hb⟩
theorem Stt.nz (h : Stt w0 cs0 cs w N) (hz : Nz w N w' N') : Stt w0 cs0 cs w' N' :=
  ⟨⟨hz.os.trans h.upd.os, hz.tape.trans h.upd.tape, hz.output.trans h.upd.output, Nat.le_trans h.upd.size hz.size,
      fun b hb hF => (hz.keep b (Nat.lt_of_lt_of_le hb h.upd.size) fun hn => by have := h.nw b hn; omega).trans (h.upd.keep b hb hF)⟩,
    fun b hb => (hz.priv b hb).elim (h.nw b) fun h2 => Nat.le_trans h.upd.size h2, h.own.nz hz, h.src⟩
theorem Stt.res (h : Stt w0 cs0 cs w N) : Res w0 cs0 w cs := ⟨h.upd, h.own.no, h.src⟩
theorem Stt.sub (h : Stt w0 cs0 cs w N) (hs : cs'.Sublist cs) : Stt w0 cs0 cs' w N := ⟨h.upd, h.nw, h.own.sub hs, fun b hb => h.src b ((fps_sub hs).subset hb)⟩
theorem Stt.perm (h : Stt w0 cs0 cs w N) (hs : cs'.Perm cs) : Stt w0 cs0 cs' w N := ⟨h.upd, h.nw, h.own.perm hs, fun b hb => h.src b ((hs.flatMap_right _).subset hb)⟩
theorem Stt.eq (h : Stt w0 cs0 cs w N) (hs : cs = cs') : Stt w0 cs0 cs' w N := hs ▸ h
theorem Stt.rd (h : Stt w0 cs0 cs w N) {sz : Nat} {s : Sl} {xs : List Value} (r : Rd w0 sz s xs) (hF : s.n = 0 ∨ sz = 0 ∨ ∀ ad, s.A = some ad → ad.block ∉ fps cs0) : Rd w sz s xs := r.upd h.upd hF
theorem Stt.rd0 (h : Stt w0 [] cs w N) {sz : Nat} {s : Sl} {xs : List Value} (r : Rd w0 sz s xs) : Rd w sz s xs := r.upd h.upd (.inr (.inr fun _ _ h => by simp [fps] at h))
theorem Stt.old (h : Stt w0 cs0 cs w N) {ad : Addr} {v : Value} (hc : w0.cell? ad = some v) (hF : ad.block ∉ fps cs0) : w.cell? ad = some v := by
  rw [World.cell?_of_block (w := w0) (h.upd.keep _ (World.block_lt_of_cell? w0 _ hc) hF)]
  exact hc
theorem Stt.old0 (h : Stt w0 [] cs w N) {ad : Addr} {v : Value} (hc : w0.cell? ad = some v) : w.cell? ad = some v := h.old hc (by simp [fps])
theorem Stt.ch (h : Stt w0 cs0 cs w N) {i : Nat} {c : Ch} (hi : cs[i]? = some c) : c.ok w := h.own.ok c (List.mem_of_getElem? hi)
theorem Stt.cell (h : Stt w0 cs0 cs w N) {i : Nat} {c : Ch} (hi : cs[i]? = some c) {ad : Addr} (hA : c.s.A = some ad) {j : Nat} {v : Value} (hj : c.xs[j]? = some v) : w.cell? (ad.add j) = some v := (h.ch hi).cell hA hj
theorem t_ldc {α : Type} {ad : Addr} {dec : α → Value} {k : α → Tm} {x : α} (h : Stt w0 cs0 cs w N) (hc : ∀ w' N', Stt w0 cs0 cs w' N' → w'.cell? ad = some (dec x)) (k1 : ∀ w' N', Stt w0 cs0 cs w' N' → k x w' N') : T.ldc ad dec k w N :=
  ⟨x, fun w' N' hz => hc w' N' (h.nz hz), fun w' N' hz => k1 w' N' (h.nz hz)⟩
theorem t_chk {α : Type} {ad : Addr} {dec : α → Value} {k : Tm} {x : α} (h : Stt w0 cs0 cs w N) (hc : ∀ w' N', Stt w0 cs0 cs w' N' → w'.cell? ad = some (dec x)) (k1 : ∀ w' N', Stt w0 cs0 cs w' N' → k w' N') : T.chk ad dec x k w N :=
  ⟨fun w' N' hz => hc w' N' (h.nz hz), fun w' N' hz => k1 w' N' (h.nz hz)⟩
theorem t_nn {p : Option Addr} {k : Addr → Tm} {ad : Addr} (hA : p = some ad) (k1 : k ad w N) : T.nn p k w N := ⟨ad, hA, k1⟩
theorem t_itet {b : Bool} {x y : Tm} (hb : b = true) (h : x w N) : T.ite b x y w N := ⟨fun _ => h, fun e => absurd (hb.symm.trans e) (by simp)⟩
theorem t_itef {b : Bool} {x y : Tm} (hb : b = false) (h : y w N) : T.ite b x y w N := ⟨fun e => absurd (hb.symm.trans e) (by simp), fun _ => h⟩
theorem t_ite {b : Bool} {x y : Tm} (hx : b = true → x w N) (hy : b = false → y w N) : T.ite b x y w N := ⟨hx, hy⟩
theorem t_ass {p : Prop} {k : Tm} (hp : p) (h : k w N) : T.ass p k w N := ⟨hp, h⟩
theorem t_new {tt : TypeId} {cells : Array Value} {k : Nat → Tm} (sz n : Nat) (hn : cells.size = n * sz) (hm : n ≤ maxLen) (h : Stt w0 cs0 cs w N)
    (k1 : ∀ g w' N', Stt w0 cs0 (⟨tt, sz, ⟨some ⟨g, 0, none⟩, n, n⟩, cells.toList⟩ :: cs) w' N' → k g w' N') : T.new (.cells cells tt) k w N := by
  intro g w' N' hg hh hn' hz
  have hs := h.nz hz
  have hgl : g < w'.heap.size := (Array.getElem?_eq_some_iff.1 hh).1
  have hfr : g ∉ fps cs := fun hm => by
    rcases hg with hg | hg
    · have := h.own.lt g hm; omega
    · exact h.own.nn g hm hg
  have hc : Ch.ok w' ⟨tt, sz, ⟨some ⟨g, 0, none⟩, n, n⟩, cells.toList⟩ := ⟨by simpa using hn, Nat.le_refl _, hm, .inr ⟨g, cells, rfl, hh, hn, List.take_of_length_le (by simp [hn])⟩⟩
  have hfp : ∀ b ∈ (Sl.mk (some ⟨g, 0, none⟩) n n).fp, b = g := fun b hb => by
    unfold Sl.fp at hb
    simp only at hb
    split at hb <;> simp at hb
    exact hb
  refine k1 g w' N' ⟨hs.upd, hs.nw, Own.app (a := [_]) ⟨fun c hc' => by simp at hc'; subst hc'; exact hc, ?_, fun b hb => ?_⟩ hs.own fun x hx hx2 => ?_, fun b hb => ?_⟩
  · simp only [fps, List.flatMap_cons, List.flatMap_nil, List.append_nil]
    unfold Sl.fp
    simp only
    split <;> simp
  · simp only [fps, List.flatMap_cons, List.flatMap_nil, List.append_nil] at hb
    rw [hfp b hb]; exact hn'
  · simp only [fps, List.flatMap_cons, List.flatMap_nil, List.append_nil] at hx
    rw [hfp x hx] at hx2
    exact hfr hx2
  · simp only [fps, List.flatMap_cons] at hb
    rcases List.mem_append.1 hb with hb | hb
    · rw [hfp b hb]
      refine .inr ?_
      rcases hg with hg | hg
      · exact Nat.le_trans h.upd.size hg
      · exact h.nw g hg
    · exact h.src b hb
/-- a row of no cells, or of nobody -/
theorem Stt.triv (h : Stt w0 cs0 cs w N) (e sz : Nat) (s : Sl) (hn : s.n = 0) (hc : s.c = 0) : Stt w0 cs0 (⟨e, sz, s, []⟩ :: cs) w N := by
  have hfp : s.fp = [] := by unfold Sl.fp; cases s.A <;> simp [hc]
  refine ⟨h.upd, h.nw, Own.app (a := [_]) ⟨fun c hc' => ?_, ?_, fun b hb => ?_⟩ h.own fun x hx => ?_, fun b hb => ?_⟩
  · simp at hc'; subst hc'
    exact ⟨by simp [hn], by simp [hn], by simp [hc], .inl hc⟩
  · simp [fps, hfp]
  · simp [fps, hfp] at hb
  · simp [fps, hfp] at hx
  · simp only [fps, List.flatMap_cons, hfp, List.nil_append] at hb
    exact h.src b hb
/-- one row has other contents -/
theorem Own.set {w w' : World} {N : NP} {cs : List Ch} (h : Own w N cs) {i : Nat} {c c' : Ch} (hi : cs[i]? = some c) (hc : c'.ok w') (hfp : c'.s.fp = c.s.fp) (hk : ∀ b, b ∉ c.s.fp → w'.heap[b]? = w.heap[b]?) : Own w' N (cs.set i c') := by
  have hil : i < cs.length := (List.getElem?_eq_some_iff.1 hi).1
  have hcs : cs = cs.take i ++ c :: cs.drop (i + 1) := split_at hi
  have hset : cs.set i c' = cs.take i ++ c' :: cs.drop (i + 1) := List.set_eq_take_append_cons_drop.trans (by rw [if_pos hil])
  have hfps : fps (cs.set i c') = fps cs := by
    rw [hset]
    conv => rhs; rw [hcs]
    simp only [fps, List.flatMap_append, List.flatMap_cons, hfp]
  have hnd := h.nd
  refine ⟨fun d hd => ?_, hfps ▸ h.nd, fun b hb => h.nn b (hfps ▸ hb)⟩
  rw [hset] at hd
  have other : ∀ d, d ∈ cs.take i ∨ d ∈ cs.drop (i + 1) → d ∈ cs ∧ ∀ b ∈ d.s.fp, b ∉ c.s.fp := by
    intro d hd
    rw [hcs] at hnd
    simp only [fps, List.flatMap_append, List.flatMap_cons] at hnd
    rw [List.nodup_append] at hnd
    obtain ⟨h1, h2, h3⟩ := hnd
    rw [List.nodup_append] at h2
    rcases hd with hd | hd
    · exact ⟨List.take_subset _ _ hd, fun b hb hbc => h3 b (List.mem_flatMap.2 ⟨d, hd, hb⟩) b (List.mem_append_left _ hbc) rfl⟩
    · exact ⟨List.drop_subset _ _ hd, fun b hb hbc => h2.2.2 b hbc b (List.mem_flatMap.2 ⟨d, hd, hb⟩) rfl⟩
  rcases List.mem_append.1 hd with hd | hd
  · obtain ⟨h1, h2⟩ := other d (.inl hd)
    exact (h.ok d h1).keep fun b hb => hk b (h2 b hb)
  · rcases List.mem_cons.1 hd with rfl | hd
    · exact hc
    · obtain ⟨h1, h2⟩ := other d (.inr hd)
      exact (h.ok d h1).keep fun b hb => hk b (h2 b hb)
theorem t_stc {ad a : Addr} {v : Value} {k : Tm} {i j : Nat} {c : Ch} (h : Stt w0 cs0 cs w N) (hi : cs[i]? = some c) (hA : c.s.A = some ad) (hj : j < c.xs.length) (ha : a = ad.add j)
    (k1 : ∀ w' N', Stt w0 cs0 (cs.set i { c with xs := c.xs.set j v }) w' N' → k w' N') : T.stc a v k w N := by
  subst ha
  have hc := h.ch hi
  obtain ⟨o1, o2, o3, o4⟩ := hc
  have hjn : j < c.s.n * c.sz := by rw [← o1]; exact hj
  have hc0 : c.s.c ≠ 0 := fun e => by have : c.s.n = 0 := by omega
                                      rw [this] at hjn; simp at hjn
  obtain ⟨g, cur, hA', hg, hsz, htk⟩ := o4.resolve_left hc0
  rw [hA] at hA'
  obtain rfl := Option.some.inj hA'
  have hfp : c.s.fp = [g] := by simp [Sl.fp, hA, hc0]
  have hadd : (⟨g, 0, none⟩ : Addr).add j = ⟨g, j, none⟩ := by rw [Addr.add_mid]; simp
  have hjc : j < cur.size := by
    rw [hsz]
    exact Nat.lt_of_lt_of_le hjn (Nat.mul_le_mul_right _ o2)
  have hgN : ¬ N g := h.own.nn g (mem_fps.2 ⟨c, List.mem_of_getElem? hi, by rw [hfp]; simp⟩)
  rw [hadd]
  refine ⟨?_, ?_, hgN, fun w' N' hz => ?_⟩
  · rw [cell_of_row w g j cur c.e (0, 0) hg]; simp [hjc]
  · simp [World.frozen?, hg]
  · refine k1 w' N' (Stt.nz ?_ hz)
    have hsame := heap_setCell_same w g j cur c.e v hg
    refine ⟨⟨h.upd.os, h.upd.tape, h.upd.output, by simpa using h.upd.size, fun b hb hF => ?_⟩, h.nw, h.own.set hi ⟨?_, o2, o3, .inr ⟨g, _, hA, hsame, by simpa using hsz, ?_⟩⟩ rfl fun b hb => ?_, ?_⟩
    · by_cases hbg : b = g
      · subst hbg
        rcases h.src b (mem_fps.2 ⟨c, List.mem_of_getElem? hi, by rw [hfp]; simp⟩) with h1 | h1
        · exact absurd h1 hF
        · omega
      · exact (Below.heap_setCell w _ v b hbg).trans (h.upd.keep b hb hF)
    · simpa using o1
    · simp only
      rw [Array.toList_setIfInBounds, ← htk, List.take_set]
    · refine Below.heap_setCell w _ v b fun e => ?_
      rw [hfp] at hb
      simp at hb
      exact hb e
    · intro b hb
      refine h.src b ?_
      have hil : i < cs.length := (List.getElem?_eq_some_iff.1 hi).1
      obtain ⟨d, hd, hbd⟩ := mem_fps.1 hb
      rcases List.mem_or_eq_of_mem_set hd with hd | rfl
      · exact mem_fps.2 ⟨d, hd, hbd⟩
      · exact mem_fps.2 ⟨c, List.mem_of_getElem? hi, hbd⟩
/-- a call upon the first rows -/
theorem t_call {α : Type} {f : FuncId} {args : List Value} {dec : α → Value} {k : α → Tm} {Post : α → List Ch → Prop} (h : Stt w0 cs0 (cs ++ rest) w N)
    (hC : Own w NO cs → Calls P f args.toArray w fun e w' => ∃ y cs1, e = .returned (dec y) ∧ Post y cs1 ∧ Res w cs w' cs1)
    (k1 : ∀ y cs1 w' N', Post y cs1 → Stt w0 cs0 (cs1 ++ rest) w' N' → k y w' N') : T.call P f args dec k w N := by
  refine (hC h.own.left.no).mono ?_
  rintro e w' ⟨y, cs1, rfl, hp, r⟩
  have hF : ∀ b ∈ fps cs, ¬ N b := fun b hb => h.own.nn b (by rw [fps_append]; exact List.mem_append_left _ hb)
  refine ⟨y, rfl, ⟨r.upd.os, r.upd.tape, r.upd.output, r.upd.size, fun b hb hn => r.upd.keep b hb fun hbc => hF b hbc hn⟩, fun w2 N2 hz => k1 y cs1 w2 N2 hp (Stt.nz ?_ hz)⟩
  refine ⟨⟨r.upd.os.trans h.upd.os, r.upd.tape.trans h.upd.tape, r.upd.output.trans h.upd.output, Nat.le_trans h.upd.size r.upd.size, fun b hb hbF => ?_⟩, fun b hb => h.nw b hb.1, h.own.res r, fun b hb => ?_⟩
  · refine (r.upd.keep b (Nat.lt_of_lt_of_le hb h.upd.size) fun hbc => ?_).trans (h.upd.keep b hb hbF)
    rcases h.src b (by rw [fps_append]; exact List.mem_append_left _ hbc) with h1 | h1
    · exact hbF h1
    · omega
  · rw [fps_append] at hb
    rcases List.mem_append.1 hb with hb | hb
    · rcases r.src b hb with h1 | h1
      · exact h.src b (by rw [fps_append]; exact List.mem_append_left _ h1)
      · exact .inr (Nat.le_trans h.upd.size h1)
    · exact h.src b (by rw [fps_append]; exact List.mem_append_right _ hb)
/-- a call that only reads -/
theorem t_callp {α : Type} {f : FuncId} {args : List Value} {dec : α → Value} {k : α → Tm} {x : α} (h : Stt w0 cs0 cs w N)
    (hC : Calls P f args.toArray w fun e w' => e = .returned (dec x) ∧ Below w.heap.size w w')
    (k1 : ∀ w' N', Stt w0 cs0 cs w' N' → k x w' N') : T.call P f args dec k w N := by
  refine t_call (cs := []) (rest := cs) (Post := fun y cs1 => y = x ∧ cs1 = []) h (fun _ => hC.mono fun e w' ⟨h1, h2⟩ => ⟨x, [], h1, ⟨rfl, rfl⟩, Upd.of_below h2, Own.nil _ _, fun b hb => by simp [fps] at hb⟩) ?_
  rintro y cs1 w' N' ⟨rfl, rfl⟩ hs
  exact k1 w' N' hs
theorem t_callq {α : Type} {f : FuncId} {args : List Value} {dec : α → Value} {k : α → Tm} {x : α} (h : Stt w0 cs0 cs w N)
    (hC : ∀ w N, Stt w0 cs0 cs w N → Calls P f args.toArray w fun e w' => e = .returned (dec x) ∧ Below w.heap.size w w')
    (k1 : ∀ w' N', Stt w0 cs0 cs w' N' → k x w' N') : T.callq P f args dec k w N :=
  ⟨x, fun w1 N1 hz => hC w1 N1 (h.nz hz), fun w1 N1 hz => k1 w1 N1 (h.nz hz)⟩
theorem t_app {t e sz bytes ty : Nat} {z : Value} (τ : TyE P t e sz bytes z) {k : Sl → Tm} {x s : Sl} {i : Nat} {xs news : List Value} (h : Stt w0 cs0 cs w N) (hi : cs[i]? = some ⟨e, sz, s, xs⟩) (r : Rd w sz x news) (h1 : ∀ u ∈ news, u.oneCell' = true)
    (hb : (s.n + x.n) * bytes ≤ 140737488355328)
    (k1 : ∀ s' w' N', s'.n = s.n + x.n → Stt w0 cs0 (cs.set i ⟨e, sz, s', xs ++ news⟩) w' N' → k s' w' N') : T.run P (Builtin.append_ #[t, t] ty #[Sl.v s, Sl.v x]) Sl.v k w N := by
  obtain ⟨s', w', hr, hn, hu, hok, hfp⟩ := app_run τ (h.ch hi) rfl rfl r h1 hb (ty := ty)
  have hil : i < cs.length := (List.getElem?_eq_some_iff.1 hi).1
  have hcs : cs.Perm ([⟨e, sz, s, xs⟩] ++ (cs.take i ++ cs.drop (i + 1))) := by
    have : cs = cs.take i ++ (⟨e, sz, s, xs⟩ : Ch) :: cs.drop (i + 1) := split_at hi
    conv => lhs; rw [this]
    exact List.perm_middle
  have hset : (cs.set i ⟨e, sz, s', xs ++ news⟩).Perm ([⟨e, sz, s', xs ++ news⟩] ++ (cs.take i ++ cs.drop (i + 1))) := by
    rw [List.set_eq_take_append_cons_drop, if_pos hil]
    exact List.perm_middle
  have hp := h.perm hcs.symm
  have r' : Res w [⟨e, sz, s, xs⟩] w' [⟨e, sz, s', xs ++ news⟩] := by
    have f1 : ∀ (c : Ch), fps [c] = c.s.fp := fun c => by simp [fps]
    refine ⟨by rw [f1]; exact hu, ⟨fun c hc => by simp at hc; subst hc; exact hok, ?_, fun _ _ h => h⟩, fun b hb => ?_⟩
    · rw [f1]
      unfold Sl.fp
      simp only
      cases s'.A <;> simp
      split <;> simp
    · rw [f1] at hb ⊢
      rcases hfp b hb with h1 | h1
      · exact .inl h1
      · exact .inr (by omega)
  have hF : ∀ b ∈ fps [(⟨e, sz, s, xs⟩ : Ch)], ¬ N b := fun b hb => hp.own.nn b (by rw [fps_append]; exact List.mem_append_left _ hb)
  refine ⟨s', w', hr, ⟨hu.os, hu.tape, hu.output, hu.size, fun b hb hn' => r'.upd.keep b hb fun hbc => hF b hbc hn'⟩, fun w2 N2 hz => k1 s' w2 N2 hn (Stt.nz (Stt.perm ?_ hset) hz)⟩
  refine ⟨⟨hu.os.trans h.upd.os, hu.tape.trans h.upd.tape, hu.output.trans h.upd.output, Nat.le_trans h.upd.size hu.size, fun b hb hbF => ?_⟩, fun b hb => h.nw b hb.1, hp.own.res r', fun b hb => ?_⟩
  · refine (r'.upd.keep b (Nat.lt_of_lt_of_le hb h.upd.size) fun hbc => ?_).trans (h.upd.keep b hb hbF)
    rcases hp.src b (by rw [fps_append]; exact List.mem_append_left _ hbc) with h1 | h1
    · exact hbF h1
    · omega
  · rw [fps_append] at hb
    rcases List.mem_append.1 hb with hb | hb
    · rcases r'.src b hb with h1 | h1
      · exact hp.src b (by rw [fps_append]; exact List.mem_append_left _ h1)
      · exact .inr (Nat.le_trans h.upd.size h1)
    · exact hp.src b (by rw [fps_append]; exact List.mem_append_right _ hb)
theorem t_loop {σ γ : Type} {body : σ → (σ → Tm) → Tm} {s0 : σ} (I : γ → σ → Prop) (C : γ → σ → List Ch) (μ : γ → σ → Nat) (g0 : γ) (h : Stt w0 cs0 (C g0 s0) w N) (h0 : I g0 s0)
    (hb : ∀ g s w N (next : σ → Tm), I g s → Stt w0 cs0 (C g s) w N → (∀ g' s' w' N', I g' s' → μ g' s' < μ g s → Stt w0 cs0 (C g' s') w' N' → next s' w' N') → body s next w N) : T.loop body s0 w N := by
  refine ⟨γ, fun g s w N => I g s ∧ Stt w0 cs0 (C g s) w N, μ, ⟨g0, h0, h⟩, ?_⟩
  rintro g s w N ⟨hi, hs⟩ w' N' hz
  exact hb g s w' N' _ hi (hs.nz hz) fun g' s' w2 N2 h1 h2 h3 => ⟨g', ⟨h1, h3⟩, h2⟩
theorem t_make {t e sz bytes : Nat} {z : Value} (τ : TyE P t e sz bytes z) {k : Sl → Tm} {k1 k2 : IntKind} {m : Int} (h : Stt w0 cs0 cs w N) (h0 : 0 ≤ m) (hb : (bytes : Int) * m ≤ 281474976710656)
    (hk : ∀ s w' N', s.n = m.toNat → Stt w0 cs0 (⟨e, sz, s, (madeCells z.cells (m.toNat * sz)).toList⟩ :: cs) w' N' → k s w' N') : T.run P (Instr.makeSlice t (.int k1 m) (.int k2 m)) Sl.v k w N := by
  have hr := mk_run (P := P) (w := w) (k1 := k1) (k2 := k2) τ.ht τ.hi ⟨h0, hb⟩ τ.h1
  refine ⟨⟨some ⟨w.heap.size, 0, none⟩, m.toNat, m.toNat⟩, _, hr, ⟨rfl, rfl, rfl, by simp, fun b hb _ => Below.heap_alloc w _ b hb⟩, fun w2 N2 hz => ?_⟩
  have hm : m.toNat ≤ maxLen := by
    have hb2 : m ≤ (bytes : Int) * m := by
      have h5 : (1 : Int) * m ≤ (bytes : Int) * m := Int.mul_le_mul_of_nonneg_right (by have := τ.h1; omega) h0
      omega
    simp only [maxLen]; omega
  have hn : T.new (.cells (madeCells z.cells (m.toNat * sz)) e) (fun g => k ⟨some ⟨g, 0, none⟩, m.toNat, m.toNat⟩) w (NI w N) :=
    t_new sz m.toNat (size_madeCells _ _) hm (h.nz ⟨rfl, rfl, rfl, Nat.le_refl _, fun _ _ _ => rfl, fun b hb => .inl hb.1⟩) fun g w' N' hs => hk _ w' N' rfl hs
  have hb' : Below w.heap.size w (w.alloc (.cells (madeCells z.cells (m.toNat * sz)) e)) := (Below.refl _ _).alloc (Nat.le_refl _) _
  have hlt : w.heap.size < (w.alloc (.cells (madeCells z.cells (m.toNat * sz)) e)).heap.size := by simp
  refine hn w.heap.size w2 N2 (.inl (Nat.le_refl _)) ?_ ?_ ((Nz.of_below hb').trans hz)
  · rw [hz.keep _ hlt (fun h => by have := h.2; omega)]
    exact heap_push w _
  · intro h
    rcases hz.priv _ h with h | h
    · have := h.2; omega
    · simp at h; omega
end
end Go.Sol

namespace Go.Sol
open Go.RowKit
set_option linter.unusedSimpArgs false
set_option linter.unusedVariables false
theorem run_ok {α : Type} {P : Program} {f : FuncId} {args : Array Value} {w : World} {TT : (Value → World → Prop) → Tm} (ok : ∀ R, Aft w NO (TT R) → Calls P f args w fun e w' => ∃ v, e = .returned v ∧ R v w')
    (cs0 : List Ch) (o : Own w NO cs0) (dec : α → Value) (Post : α → List Ch → Prop)
    (h : ∀ R : Value → World → Prop, (∀ y cs1 w' N' v, Stt w cs0 cs1 w' N' → Post y cs1 → v = dec y → T.ret R v w' N') → ∀ w' N', Stt w cs0 cs0 w' N' → TT R w' N') :
    Calls P f args w fun e w' => ∃ y cs1, e = .returned (dec y) ∧ Post y cs1 ∧ Res w cs0 w' cs1 :=
  (ok (fun v w' => ∃ y cs1, v = dec y ∧ Post y cs1 ∧ Res w cs0 w' cs1) fun w' N' hz => h (fun v w' => ∃ y cs1, v = dec y ∧ Post y cs1 ∧ Res w cs0 w' cs1) (fun y cs1 w' N' v hs hp hv => ⟨y, cs1, hv, hp, hs.res⟩) w' N' ((Stt.start o).nz hz)).mono
    fun e w' ⟨v, he, y, cs1, hv, hp, hr⟩ => ⟨y, cs1, by rw [he, hv], hp, hr⟩
theorem run_pure {P : Program} {f : FuncId} {args : Array Value} {w : World} {v : Value} {TT : (Value → World → Prop) → Tm} (ok : ∀ R, Aft w NO (TT R) → Calls P f args w fun e w' => ∃ v, e = .returned v ∧ R v w')
    (h : ∀ R : Value → World → Prop, (∀ cs1 w' N' v', Stt w [] cs1 w' N' → v' = v → T.ret R v' w' N') → ∀ w' N', Stt w [] [] w' N' → TT R w' N') :
    Calls P f args w fun e w' => e = .returned v ∧ Below w.heap.size w w' :=
  (ok (fun v' w' => v' = v ∧ Below w.heap.size w w') fun w' N' hz => h (fun v' w' => v' = v ∧ Below w.heap.size w w') (fun cs1 w' N' v' hs hv => ⟨hv, hs.upd.below⟩) w' N' ((Stt.start (Own.nil w NO)).nz hz)).mono
    fun e w' ⟨v', he, hv, hr⟩ => ⟨by rw [he, hv], hr⟩
theorem t_idx' {w : World} {N : NP} {s : Sl} {i : Int} {sz : Nat} {k : Addr → Tm} {ad : Addr} (j : Nat) (hA : s.A = some ad) (h0 : 0 ≤ i) (h1 : i < s.n) (hj : i.toNat * sz = j) (k1 : k (ad.add j) w N) : T.idx s i sz k w N := ⟨ad, hA, h0, h1, by rw [hj]; exact k1⟩
theorem w64i {x : Int} (h0 : -9223372036854775808 ≤ x) (h1 : x ≤ 9223372036854775807) : IntKind.i64.wrap x = x := w64_id h0 h1
theorem w64s {i : Nat} (h : i < maxLen) : IntKind.i64.wrap ((i : Int) + 1) = ((i + 1 : Nat) : Int) := by
  rw [w64i (by omega) (by simp only [maxLen] at h; omega)]; omega
def ints (xs : List Int) : List Value := xs.map (.int .i64 ·)
@[simp] theorem ints_len (xs : List Int) : (ints xs).length = xs.length := by simp [ints]
theorem ints_at {xs : List Int} {j : Nat} {x : Int} (h : xs[j]? = some x) : (ints xs)[j]? = some (.int .i64 x) := by simp [ints, h]
theorem ints_one (xs : List Int) : ∀ u ∈ ints xs, u.oneCell' = true := by
  intro u hu
  obtain ⟨x, _, rfl⟩ := List.mem_map.1 hu
  rfl
theorem Rd.n1 {w : World} {s : Sl} {xs : List Value} (h : Rd w 1 s xs) : s.n = xs.length := by have := h.1; omega
theorem Rd.addr {w : World} {sz : Nat} {s : Sl} {xs : List Value} (h : Rd w sz s xs) {i : Nat} (hi : i < s.n) : ∃ ad, s.A = some ad ∧ ∀ j v, xs[j]? = some v → w.cell? (ad.add j) = some v := h.2.2.resolve_left (by omega)
end Go.Sol
namespace Go.Sol
open Go.RowKit
theorem bytes_beq (x y : ByteArray) : (x.toList == y.toList) = decide (x = y) := by
  rw [ByteArray.toList_eq, ByteArray.toList_eq]
  by_cases h : x = y
  · subst h; simp
  · have : x.data.toList ≠ y.data.toList := fun e => h (by cases x; cases y; simp at e; subst e; rfl)
    rw [beq_false_of_ne this]; simp [h]
end Go.Sol
namespace Go.Sol
open Go.RowKit
/-- a copy into a row of one's own (elements of one cell) -/
theorem t_copy {P : Program} {w0 w : World} {cs0 cs : List Ch} {N : NP} {t t2 ty e : Nat} (hu : P.underlying t = some (.slice e)) (hs1 : (P.info? e).map (·.size) = some 1) {k : Int → Tm} {d s : Sl} {i lo : Nat} {c : Ch} {ad sa : Addr} (st : Stt w0 cs0 cs w N) (hi : cs[i]? = some c) (hz : c.sz = 1)
    (hA : c.s.A = some ad) (hd : d.A = some (ad.add lo)) (vs : List Value) (hm : vs.length = Nat.min s.n d.n) (h0 : 0 < vs.length) (hfit : lo + vs.length ≤ c.s.n) (hsA : s.A = some sa) (hsrc : ∀ j v, vs[j]? = some v → w.cell? (sa.add j) = some v) (h1 : ∀ v ∈ vs, v.oneCell' = true)
    (k1 : ∀ w' N', Stt w0 cs0 (cs.set i { c with xs := c.xs.take lo ++ vs ++ c.xs.drop (lo + vs.length) }) w' N' → k vs.length w' N') : T.run P (Builtin.copy_ #[t, t2] ty #[Sl.v d, Sl.v s]) (Value.int .i64) k w N := by
  have hc := st.ch hi
  obtain ⟨o1, o2, o3, o4⟩ := hc
  rw [hz, Nat.mul_one] at o1
  have hc0 : c.s.c ≠ 0 := by omega
  obtain ⟨g, cur, hA', hg, hsz, htk⟩ := o4.resolve_left hc0
  rw [hz, Nat.mul_one] at hsz htk
  rw [hA] at hA'
  obtain rfl := Option.some.inj hA'
  have hfp : c.s.fp = [g] := by simp [Sl.fp, hA, hc0]
  have hgN : ¬ N g := st.own.nn g (mem_fps.2 ⟨c, List.mem_of_getElem? hi, by rw [hfp]; simp⟩)
  have hdv : Sl.v d = .slice (some ⟨g, lo, none⟩) d.n d.c := by unfold Sl.v; rw [hd, Addr.add_mid]; simp
  have hsv : Sl.v s = .slice (some sa) s.n s.c := by unfold Sl.v; rw [hsA]
  have hr := run_copy_row P w t t2 ty e g lo d.n d.c sa s.n s.c cur c.e vs hu hs1 hg hm hsrc (by omega) h1
  rw [← hdv, ← hsv] at hr
  have hrow := setRow_heap w g cur (cur.toList.take lo ++ vs ++ cur.toList.drop (lo + vs.length)).toArray c.e (0, 0) hg
  refine ⟨vs.length, _, hr, ⟨rfl, rfl, rfl, by simp, fun b hb hn => setRow_other w g b _ (fun e => hgN (e ▸ hn))⟩, fun w' N' hz' => k1 w' N' (Stt.nz ?_ hz')⟩
  refine ⟨⟨st.upd.os, st.upd.tape, st.upd.output, by simpa using st.upd.size, fun b hb hF => ?_⟩, fun b hb => st.nw b hb.1, ?_, ?_⟩
  · by_cases hbg : b = g
    · subst hbg
      rcases st.src b (mem_fps.2 ⟨c, List.mem_of_getElem? hi, by rw [hfp]; simp⟩) with h1 | h1
      · exact absurd h1 hF
      · omega
    · exact (setRow_other w g b _ hbg).trans (st.upd.keep b hb hF)
  · have own := st.own.set (w' := w.setRow g (cur.toList.take lo ++ vs ++ cur.toList.drop (lo + vs.length)).toArray) hi (c' := { c with xs := c.xs.take lo ++ vs ++ c.xs.drop (lo + vs.length) }) ⟨?_, o2, o3, .inr ⟨g, _, hA, hrow, ?_, ?_⟩⟩ rfl fun b hb => setRow_other w g b _ (fun e => by rw [hfp] at hb; simp at hb; exact hb e)
    · exact ⟨own.ok, own.nd, fun b hb hn => own.nn b hb hn.1⟩
    · simp only [hz, Nat.mul_one, List.length_append, List.length_take, List.length_drop]; omega
    · simp only [hz, Nat.mul_one, List.size_toArray, List.length_append, List.length_take, List.length_drop, Array.length_toList]; omega
    · simp only [hz, Nat.mul_one]
      rw [← htk]
      rw [List.take_append, List.take_append, List.length_append, List.length_take, List.take_take, List.take_take, Array.length_toList]
      have e1 : min c.s.n lo = lo := by omega
      have e2 : min lo c.s.n = lo := by omega
      have e3 : min lo cur.size = lo := by omega
      rw [e1, e2, e3, List.drop_take]
      congr 2
      · exact List.take_of_length_le (by omega)
  · intro b hb
    refine st.src b ?_
    obtain ⟨d', hd', hbd⟩ := mem_fps.1 hb
    rcases List.mem_or_eq_of_mem_set hd' with h | rfl
    · exact mem_fps.2 ⟨d', h, hbd⟩
    · exact mem_fps.2 ⟨c, List.mem_of_getElem? hi, hbd⟩
end Go.Sol
namespace Go.Sol
theorem Stt.left {w0 w : World} {cs0 a b : List Ch} {N : NP} (h : Stt w0 cs0 (a ++ b) w N) : Stt w0 cs0 a w N := h.sub (List.sublist_append_left _ _)
end Go.Sol
namespace Go.Sol
/-- a permutation told by places -/
theorem perm_idx {α : Type} {l l' : List α} (σ : List Nat) (hσ : σ.Perm (List.range l.length)) (h : σ.map (fun i => l[i]?) = l'.map some) : l'.Perm l := by
  have h1 : (σ.map fun i => l[i]?).Perm ((List.range l.length).map fun i => l[i]?) := hσ.map _
  have h2 : (List.range l.length).map (fun i => l[i]?) = l.map some := by
    apply List.ext_getElem
    · simp
    · intro i h1 h2
      simp at h1
      simp [h1]
  rw [h, h2] at h1
  have := h1.filterMap id
  simpa using this
end Go.Sol

namespace Go.Proofs.Ytboccoihmginiaa
open Go.RowKit Go.Sol
set_option linter.unusedVariables false
set_option linter.unusedSimpArgs false
theorem τ24 : TyE Try.prog 24 3 1 8 (.int .i64 0) := ⟨by kernel_rfl, by kernel_rfl, rfl, by decide, by decide⟩
theorem τ23 : TyE Try.prog 23 70 3 48 (.agg #[.int .i64 0, .string ⟨#[]⟩, .slice none 0 0]) := ⟨by kernel_rfl, by kernel_rfl, rfl, by decide, by decide⟩
/-- numbers one behind the other -/
def seqI (k : Int) : Nat → List Int
  | 0 => []
  | n + 1 => k :: seqI (k + 1) n
@[simp] theorem seqI_len (k : Int) (n : Nat) : (seqI k n).length = n := by
  induction n generalizing k with
  | zero => rfl
  | succ n ih => simp [seqI, ih]
end Go.Proofs.Ytboccoihmginiaa
