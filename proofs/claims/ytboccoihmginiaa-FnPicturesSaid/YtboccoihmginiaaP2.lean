/-
Helper texts: Helper text, written by a program of ours (gen.py): what Go functions do, as predicates on worlds. No condition.
-/
import Derived.Test.YtboccoihmginiaaP1
namespace Go.Proofs.Ytboccoihmginiaa
open Go.RowKit Go.Sol
set_option linter.unusedVariables false
set_option linter.unusedSimpArgs false
def f31_spec_l14Put.L3 (R : Value → World → Prop) (y22 : Sl × Sl × Int × Int) (y92 : Sl × Sl × Int × Int) (x123 : Sl) (s3_97 : Int) (next132 : (Int) → Tm) : Tm :=
  T.ite (decide (s3_97 < (x123.n : Int))) (T.idx x123 s3_97 1 fun (p151 : Addr) => T.ldc p151 (Value.int .i64) fun (x152 : Int) => T.ite (decide (0 ≤ x152)) (T.ret R (.tuple #[.agg #[Sl.v y92.1, Sl.v y92.2.1, .int .i64 y92.2.2.1], .int .i64 y22.2.2.2])) (next132 (IntKind.i64.wrap (s3_97 + 1)))) (T.idx y92.1 y22.2.2.2 3 fun (p165 : Addr) => T.stc (p165.add 0) (.int .i64 0) (T.stc (p165.add 1) (.string (⟨#[]⟩ : ByteArray)) (T.stc (p165.add 2) (Sl.v Sl.nil) (T.ret R (.tuple #[.agg #[Sl.v y92.1, Sl.v y92.2.1, .int .i64 y92.2.2.1], .int .i64 (-1)])))))
def f31_spec_l14Put.J2 (R : Value → World → Prop) (a2 : Int) (a3 : Int) (a4 : ByteArray) (y22 : Sl × Sl × Int × Int) (j2_37 : Bool) : Tm :=
  T.ite j2_37 (T.idx y22.1 y22.2.2.2 3 fun (p35 : Addr) => T.stc (p35.add 0) (.int .i64 0) (T.stc (p35.add 1) (.string (⟨#[]⟩ : ByteArray)) (T.stc (p35.add 2) (Sl.v Sl.nil) (T.ret R (.tuple #[.agg #[Sl.v y22.1, Sl.v y22.2.1, .int .i64 y22.2.2.1], .int .i64 (-1)]))))) (T.ite (a2 == 1) (T.idx y22.1 y22.2.2.2 3 fun (p56 : Addr) => T.stc (p56.add 1) (.string a4) (T.ret R (.tuple #[.agg #[Sl.v y22.1, Sl.v y22.2.1, .int .i64 y22.2.2.1], .int .i64 y22.2.2.2]))) (T.call Try.prog 55 [.int .i64 a2] (Value.int .i64) fun (y65 : Int) => T.idx y22.1 y22.2.2.2 3 fun (p70 : Addr) => T.ldc (p70.add 2) Sl.v fun (x75 : Sl) => T.ass ((IntKind.i64.wrap (y65.tdiv 4)) ≠ 0) (T.idx x75 (IntKind.i64.wrap (a3.tdiv (IntKind.i64.wrap (y65.tdiv 4)))) 1 fun (p79 : Addr) => T.ldc p79 (Value.int .i64) fun (x84 : Int) => T.ass ((IntKind.i64.wrap (y65.tdiv 4)) ≠ 0) (T.call Try.prog 31 [.agg #[Sl.v y22.1, Sl.v y22.2.1, .int .i64 y22.2.2.1], .int .i64 x84, .int .i64 (IntKind.i64.wrap (a2 - 1)), .int .i64 (a3.tmod (IntKind.i64.wrap (y65.tdiv 4))), .string a4] (fun (z : Sl × Sl × Int × Int) => .tuple #[.agg #[Sl.v z.1, Sl.v z.2.1, .int .i64 z.2.2.1], .int .i64 z.2.2.2]) fun (y92 : Sl × Sl × Int × Int) => T.idx y92.1 y22.2.2.2 3 fun (p103 : Addr) => T.ldc (p103.add 2) Sl.v fun (x108 : Sl) => T.ass ((IntKind.i64.wrap (y65.tdiv 4)) ≠ 0) (T.idx x108 (IntKind.i64.wrap (a3.tdiv (IntKind.i64.wrap (y65.tdiv 4)))) 1 fun (p112 : Addr) => T.stc p112 (.int .i64 y92.2.2.2) (T.idx y92.1 y22.2.2.2 3 fun (p122 : Addr) => T.ldc (p122.add 2) Sl.v fun (x123 : Sl) => T.loop (fun (s : Int) next => f31_spec_l14Put.L3 R y22 y92 x123 s (fun (z0 : Int) => next z0)) 0))))))
def f31_spec_l14Put.J1 (R : Value → World → Prop) (a0_0 : Sl) (a0_1 : Sl) (a0_2 : Int) (a1 : Int) (a2 : Int) (a3 : Int) (a4 : ByteArray) (j1_22 : Bool) : Tm :=
  T.ite j1_22 (T.ret R (.tuple #[.agg #[Sl.v a0_0, Sl.v a0_1, .int .i64 a0_2], .int .i64 a1])) (T.call Try.prog 56 [.agg #[Sl.v a0_0, Sl.v a0_1, .int .i64 a0_2], .int .i64 a1, .int .i64 a2] (fun (z : Sl × Sl × Int × Int) => .tuple #[.agg #[Sl.v z.1, Sl.v z.2.1, .int .i64 z.2.2.1], .int .i64 z.2.2.2]) fun (y22 : Sl × Sl × Int × Int) => T.ite (a2 == 1) (f31_spec_l14Put.J2 R a2 a3 a4 y22 (a4.toList == (⟨#[]⟩ : ByteArray).toList)) (f31_spec_l14Put.J2 R a2 a3 a4 y22 false))
def f31_spec_l14Put.T (R : Value → World → Prop) (a0_0 : Sl) (a0_1 : Sl) (a0_2 : Int) (a1 : Int) (a2 : Int) (a3 : Int) (a4 : ByteArray) : Tm :=
  T.ite (a4.toList == (⟨#[]⟩ : ByteArray).toList) (f31_spec_l14Put.J1 R a0_0 a0_1 a0_2 a1 a2 a3 a4 (decide (a1 < 0))) (f31_spec_l14Put.J1 R a0_0 a0_1 a0_2 a1 a2 a3 a4 false)
set_option maxHeartbeats 4000000 in
set_option maxRecDepth 100000 in
theorem f31_spec_l14Put.ok (R : Value → World → Prop) (a0_0 : Sl) (a0_1 : Sl) (a0_2 : Int) (a1 : Int) (a2 : Int) (a3 : Int) (a4 : ByteArray) (w : World) (h : Aft w (fun _ => False) (f31_spec_l14Put.T R a0_0 a0_1 a0_2 a1 a2 a3 a4)) :
    Calls Try.prog 31 (List.toArray [.agg #[Sl.v a0_0, Sl.v a0_1, .int .i64 a0_2], .int .i64 a1, .int .i64 a2, .int .i64 a3, .string a4]) w fun e w' => ∃ v, e = .returned v ∧ R v w' := by
  refine enter 112 Try.func31 rfl rfl rfl ?_
  have B := Bx.nil w
  have H := h
  clear h
  refine c_seq (fun Q3 n1 o2 => ?_)
  refine c_region ?_
  obtain ⟨w4, N, g5, hw, hg, B, H⟩ := B.new H 26 #[Sl.v a0_0, Sl.v a0_1, .int .i64 a0_2]
  refine stp (v := .pointer (some ⟨g5, 0, none⟩)) (w' := w4) rfl rfl (r_box (v1 := .agg #[Sl.v a0_0, Sl.v a0_1, .int .i64 a0_2]) rfl rfl (box_run rfl hw hg)) ?_
  clear hw hg
  obtain ⟨w6, N, g7, hw, hg, B, H⟩ := B.new H 26 #[Sl.v Sl.nil, Sl.v Sl.nil, .int .i64 0]
  refine stp (v := .pointer (some ⟨g7, 0, none⟩)) (w' := w6) rfl rfl (r_alloc rfl (alloc_run (al26 _) hw hg)) ?_
  clear hw hg
  refine stp (v := .int .i64 0) rfl rfl (r_assign rfl rfl) ?_
  refine fin ?_
  refine n1 _ _ ?_
  refine c_seq (fun Q10 n8 o9 => ?_)
  refine c_seqj (fun a w => ∃ (j1_22 : Bool) (g : Nat → Value) (N : NP), a = A 112 (updl g [(1, .int .i64 a1), (2, .int .i64 a2), (3, .int .i64 a3), (4, .string a4), (5, .pointer (some ⟨g5, 0, none⟩)), (10, .pointer (some ⟨g7, 0, none⟩)), (22, .bool j1_22)]) ∧ Bx w N [⟨g7, 26, #[Sl.v Sl.nil, Sl.v Sl.nil, .int .i64 0]⟩, ⟨g5, 26, #[Sl.v a0_0, Sl.v a0_1, .int .i64 a0_2]⟩] ∧ Aft w N (f31_spec_l14Put.J1 R a0_0 a0_1 a0_2 a1 a2 a3 a4 j1_22)) (fun Q13 n11 o12 => ?_) ?_
  ·
    refine c_region ?_
    refine stp (v := .string a4) rfl rfl (r_move rfl rfl) ?_
    refine stp (v := .bool (a4.toList == (⟨#[]⟩ : ByteArray).toList)) rfl rfl (r_seql (s := a4) (t := (⟨#[]⟩ : ByteArray)) rfl rfl rfl) ?_
    refine stp (v := .bool (a4.toList == (⟨#[]⟩ : ByteArray).toList)) rfl rfl (r_move rfl rfl) ?_
    rcases Bool.eq_false_or_eq_true (a4.toList == (⟨#[]⟩ : ByteArray).toList) with hb14 | hb14
    · replace H := at_itet hb14 H
      refine stp (v := .int .i64 a1) (wn rfl rfl rfl rfl (congrArg Value.bool hb14)) rfl (r_move rfl rfl) ?_
      refine stp (v := .bool (decide (a1 < 0))) (wn rfl rfl rfl rfl (congrArg Value.bool hb14)) rfl (r_lss (a := a1) (b := 0) rfl rfl rfl) ?_
      refine stp (v := .bool (decide (a1 < 0))) rfl rfl (r_pickt rfl (congrArg Value.bool hb14) rfl) ?_
      refine fin ?_
      exact n11 _ _ ⟨decide (a1 < 0), _, _, fr_self rfl, B, H⟩
    · replace H := at_itef hb14 H
      refine skp (un rfl rfl rfl rfl (congrArg Value.bool hb14) nofun) rfl ?_
      refine skp (un rfl rfl rfl rfl (congrArg Value.bool hb14) nofun) rfl ?_
      refine stp (v := .bool false) rfl rfl (r_pickf rfl (congrArg Value.bool hb14) rfl) ?_
      refine fin ?_
      exact n11 _ _ ⟨false, _, _, fr_self rfl, B, H⟩
  ·
    rintro _ w ⟨j1_22, g, N, rfl, B, H⟩
    refine c_cond (b := j1_22) rfl (fun hb15 => ?_) (fun hb15 => ?_)
    · replace H := at_itet hb15 H
      refine c_seq (fun Q18 n16 o17 => ?_)
      refine c_region ?_
      refine stp (v := .agg #[Sl.v a0_0, Sl.v a0_1, .int .i64 a0_2]) rfl rfl (r_load (v1 := .pointer (some ⟨g5, 0, none⟩)) rfl rfl (bxn (B.get 1 rfl) Try.underlying26 rfl sz26)) ?_
      refine stp (v := .int .i64 a1) rfl rfl (r_move rfl rfl) ?_
      obtain ⟨w2, hr, B, H⟩ := B.stn H (i := 0) (T := 26) (cs' := #[Sl.v a0_0, Sl.v a0_1, .int .i64 a0_2]) (ad := ⟨g7, 0, none⟩) rfl rfl rfl rfl sz26
      refine stp0 rfl rfl (r_store (v1 := .pointer (some ⟨g7, 0, none⟩)) (v2 := .agg #[Sl.v a0_0, Sl.v a0_1, .int .i64 a0_2]) rfl rfl rfl hr) ?_
      replace B : Bx _ _ [⟨g7, 26, #[Sl.v a0_0, Sl.v a0_1, .int .i64 a0_2]⟩, ⟨g5, 26, #[Sl.v a0_0, Sl.v a0_1, .int .i64 a0_2]⟩] := B
      clear hr
      refine stp (v := .int .i64 a1) rfl rfl (r_assign rfl rfl) ?_
      refine fin ?_
      refine n16 _ _ ?_
      refine c_ret (o9 _ _ _ nofun ((done (vs := [.agg #[Sl.v a0_0, Sl.v a0_1, .int .i64 a0_2], .int .i64 a1]) (.cell rfl (bxn (B.get 0 rfl) Try.underlying26 rfl sz26) (.tmp rfl .nil)) rfl ⟨_, rfl, H.now⟩)))
    · replace H := at_itef hb15 H
      refine c_skip ?_
      refine n8 _ _ ?_
      refine c_seq (fun Q21 n19 o20 => ?_)
      refine c_region ?_
      refine stp (v := .agg #[Sl.v a0_0, Sl.v a0_1, .int .i64 a0_2]) rfl rfl (r_load (v1 := .pointer (some ⟨g5, 0, none⟩)) rfl rfl (bxn (B.get 1 rfl) Try.underlying26 rfl sz26)) ?_
      refine stp (v := .int .i64 a1) rfl rfl (r_move rfl rfl) ?_
      refine stp (v := .int .i64 a2) rfl rfl (r_move rfl rfl) ?_
      refine stpc rfl rfl (r_call (vs := [.agg #[Sl.v a0_0, Sl.v a0_1, .int .i64 a0_2], .int .i64 a1, .int .i64 a2]) rfl rfl (ca56 _ _)) ?_
      refine at_call B H (fun y22 w B H => ?_)
      refine stp (v := .tuple #[.agg #[Sl.v y22.1, Sl.v y22.2.1, .int .i64 y22.2.2.1], .int .i64 y22.2.2.2]) rfl rfl (r_move rfl rfl) ?_
      refine stp (v := .agg #[Sl.v y22.1, Sl.v y22.2.1, .int .i64 y22.2.2.1]) rfl rfl (r_extract (v1 := .tuple #[.agg #[Sl.v y22.1, Sl.v y22.2.1, .int .i64 y22.2.2.1], .int .i64 y22.2.2.2]) rfl rfl rfl) ?_
      refine stp (v := .int .i64 y22.2.2.2) rfl rfl (r_extract (v1 := .tuple #[.agg #[Sl.v y22.1, Sl.v y22.2.1, .int .i64 y22.2.2.1], .int .i64 y22.2.2.2]) rfl rfl rfl) ?_
      obtain ⟨w2, hr, B, H⟩ := B.stn H (i := 1) (T := 26) (cs' := #[Sl.v y22.1, Sl.v y22.2.1, .int .i64 y22.2.2.1]) (ad := ⟨g5, 0, none⟩) rfl rfl rfl rfl sz26
      refine stp0 rfl rfl (r_store (v1 := .pointer (some ⟨g5, 0, none⟩)) (v2 := .agg #[Sl.v y22.1, Sl.v y22.2.1, .int .i64 y22.2.2.1]) rfl rfl rfl hr) ?_
      replace B : Bx _ _ [⟨g7, 26, #[Sl.v Sl.nil, Sl.v Sl.nil, .int .i64 0]⟩, ⟨g5, 26, #[Sl.v y22.1, Sl.v y22.2.1, .int .i64 y22.2.2.1]⟩] := B
      clear hr
      refine stp (v := .int .i64 y22.2.2.2) rfl rfl (r_assign rfl rfl) ?_
      refine fin ?_
      refine n19 _ _ ?_
      refine c_seq (fun Q25 n23 o24 => ?_)
      refine c_seqj (fun a w => ∃ (j2_37 : Bool) (g : Nat → Value) (N : NP), a = A 112 (updl g [(1, .int .i64 y22.2.2.2), (2, .int .i64 a2), (3, .int .i64 a3), (4, .string a4), (5, .pointer (some ⟨g5, 0, none⟩)), (10, .pointer (some ⟨g7, 0, none⟩)), (37, .bool j2_37)]) ∧ Bx w N [⟨g7, 26, #[Sl.v Sl.nil, Sl.v Sl.nil, .int .i64 0]⟩, ⟨g5, 26, #[Sl.v y22.1, Sl.v y22.2.1, .int .i64 y22.2.2.1]⟩] ∧ Aft w N (f31_spec_l14Put.J2 R a2 a3 a4 y22 j2_37)) (fun Q28 n26 o27 => ?_) ?_
      ·
        refine c_region ?_
        refine stp (v := .int .i64 a2) rfl rfl (r_move rfl rfl) ?_
        refine stp (v := .bool (a2 == 1)) rfl rfl (r_eql (a := a2) (b := 1) rfl rfl rfl) ?_
        refine stp (v := .bool (a2 == 1)) rfl rfl (r_move rfl rfl) ?_
        rcases Bool.eq_false_or_eq_true (a2 == 1) with hb29 | hb29
        · replace H := at_itet hb29 H
          refine stp (v := .string a4) (wn rfl rfl rfl rfl (congrArg Value.bool hb29)) rfl (r_move rfl rfl) ?_
          refine stp (v := .bool (a4.toList == (⟨#[]⟩ : ByteArray).toList)) (wn rfl rfl rfl rfl (congrArg Value.bool hb29)) rfl (r_seql (s := a4) (t := (⟨#[]⟩ : ByteArray)) rfl rfl rfl) ?_
          refine stp (v := .bool (a4.toList == (⟨#[]⟩ : ByteArray).toList)) rfl rfl (r_pickt rfl (congrArg Value.bool hb29) rfl) ?_
          refine fin ?_
          exact n26 _ _ ⟨a4.toList == (⟨#[]⟩ : ByteArray).toList, _, _, fr_self rfl, B, H⟩
        · replace H := at_itef hb29 H
          refine skp (un rfl rfl rfl rfl (congrArg Value.bool hb29) nofun) rfl ?_
          refine skp (un rfl rfl rfl rfl (congrArg Value.bool hb29) nofun) rfl ?_
          refine stp (v := .bool false) rfl rfl (r_pickf rfl (congrArg Value.bool hb29) rfl) ?_
          refine fin ?_
          exact n26 _ _ ⟨false, _, _, fr_self rfl, B, H⟩
      ·
        rintro _ w ⟨j2_37, g, N, rfl, B, H⟩
        refine c_cond (b := j2_37) rfl (fun hb30 => ?_) (fun hb30 => ?_)
        · replace H := at_itet hb30 H
          refine c_seq (fun Q33 n31 o32 => ?_)
          refine c_region ?_
          refine stp (v := .pointer (some ⟨g5, 0, none⟩)) rfl rfl (r_fieldAddr (v1 := .pointer (some ⟨g5, 0, none⟩)) rfl rfl (fld26_0 _ _)) ?_
          refine stp (v := Sl.v y22.1) rfl rfl (r_load (v1 := .pointer (some ⟨g5, 0, none⟩)) rfl rfl (ld1 Try.underlying23 rfl (bx1 (B.get 1 rfl) rfl rfl))) ?_
          refine stp (v := .int .i64 y22.2.2.2) rfl rfl (r_move rfl rfl) ?_
          refine stp (v := .agg #[.int .i64 0, .string (⟨#[]⟩ : ByteArray), Sl.v Sl.nil]) rfl rfl (r_build (qs := []) rfl rfl (site8  _)) ?_
          obtain ⟨p34, p35, he, h0, h1, hpa, H'⟩ := at_idx' H
          replace H := H'; clear H'
          refine stp (v := .pointer (some p35)) rfl rfl (r_indexAddr (v1 := Sl.v y22.1) (v2 := .int .i64 y22.2.2.2) rfl rfl rfl (ix' Try.underlying23 sz70 he h0 h1 hpa)) ?_
          clear he h0 h1 hpa
          obtain ⟨hc36, hf37, B', H'⟩ := at_stc B H
          replace B := B'; clear B'
          replace H := H'; clear H'
          obtain ⟨hc38, hf39, B', H'⟩ := at_stc B H
          replace B := B'; clear B'
          replace H := H'; clear H'
          obtain ⟨hc40, hf41, B', H'⟩ := at_stc B H
          replace B := B'; clear B'
          replace H := H'; clear H'
          refine stp0 rfl rfl (r_store (v1 := .pointer (some p35)) (v2 := .agg #[.int .i64 0, .string (⟨#[]⟩ : ByteArray), Sl.v Sl.nil]) rfl rfl rfl (stn (N := fun _ => False) sz70 (.cons rfl hc36 hf37 (.cons rfl hc38 hf39 (.cons rfl hc40 hf41 .nil))))) ?_
          refine fin ?_
          refine n31 _ _ ?_
          refine c_seq (fun Q44 n42 o43 => ?_)
          refine c_region ?_
          refine stp (v := .agg #[Sl.v y22.1, Sl.v y22.2.1, .int .i64 y22.2.2.1]) rfl rfl (r_load (v1 := .pointer (some ⟨g5, 0, none⟩)) rfl rfl (bxn (B.get 1 rfl) Try.underlying26 rfl sz26)) ?_
          obtain ⟨w2, hr, B, H⟩ := B.stn H (i := 0) (T := 26) (cs' := #[Sl.v y22.1, Sl.v y22.2.1, .int .i64 y22.2.2.1]) (ad := ⟨g7, 0, none⟩) rfl rfl rfl rfl sz26
          refine stp0 rfl rfl (r_store (v1 := .pointer (some ⟨g7, 0, none⟩)) (v2 := .agg #[Sl.v y22.1, Sl.v y22.2.1, .int .i64 y22.2.2.1]) rfl rfl rfl hr) ?_
          replace B : Bx _ _ [⟨g7, 26, #[Sl.v y22.1, Sl.v y22.2.1, .int .i64 y22.2.2.1]⟩, ⟨g5, 26, #[Sl.v y22.1, Sl.v y22.2.1, .int .i64 y22.2.2.1]⟩] := B
          clear hr
          refine stp (v := .int .i64 (-1)) rfl rfl (r_assign rfl rfl) ?_
          refine fin ?_
          refine n42 _ _ ?_
          refine c_ret (o24 _ _ _ nofun ((done (vs := [.agg #[Sl.v y22.1, Sl.v y22.2.1, .int .i64 y22.2.2.1], .int .i64 (-1)]) (.cell rfl (bxn (B.get 0 rfl) Try.underlying26 rfl sz26) (.tmp rfl .nil)) rfl ⟨_, rfl, H.now⟩)))
        · replace H := at_itef hb30 H
          refine c_skip ?_
          refine n23 _ _ ?_
          refine c_seq (fun Q47 n45 o46 => ?_)
          refine c_seq (fun Q50 n48 o49 => ?_)
          refine c_region ?_
          refine stp (v := .int .i64 a2) rfl rfl (r_move rfl rfl) ?_
          refine stp (v := .bool (a2 == 1)) rfl rfl (r_eql (a := a2) (b := 1) rfl rfl rfl) ?_
          refine fin ?_
          refine n48 _ _ ?_
          refine c_cond (b := a2 == 1) rfl (fun hb51 => ?_) (fun hb51 => ?_)
          · replace H := at_itet hb51 H
            refine c_seq (fun Q54 n52 o53 => ?_)
            refine c_region ?_
            refine stp (v := .pointer (some ⟨g5, 0, none⟩)) rfl rfl (r_fieldAddr (v1 := .pointer (some ⟨g5, 0, none⟩)) rfl rfl (fld26_0 _ _)) ?_
            refine stp (v := Sl.v y22.1) rfl rfl (r_load (v1 := .pointer (some ⟨g5, 0, none⟩)) rfl rfl (ld1 Try.underlying23 rfl (bx1 (B.get 1 rfl) rfl rfl))) ?_
            refine stp (v := .int .i64 y22.2.2.2) rfl rfl (r_move rfl rfl) ?_
            refine stp (v := .string a4) rfl rfl (r_move rfl rfl) ?_
            obtain ⟨p55, p56, he, h0, h1, hpa, H'⟩ := at_idx' H
            replace H := H'; clear H'
            refine stp (v := .pointer (some p56)) rfl rfl (r_indexAddr (v1 := Sl.v y22.1) (v2 := .int .i64 y22.2.2.2) rfl rfl rfl (ix' Try.underlying23 sz70 he h0 h1 hpa)) ?_
            clear he h0 h1 hpa
            refine stp (v := .pointer (some (p56.add 1))) rfl rfl (r_fieldAddr (v1 := .pointer (some p56)) rfl rfl (fld70_1 _ _)) ?_
            obtain ⟨hc57, hf58, B', H'⟩ := at_stc B H
            replace B := B'; clear B'
            replace H := H'; clear H'
            refine stp0 rfl rfl (r_store (v1 := .pointer (some (p56.add 1))) (v2 := .string a4) rfl rfl rfl (st1 rfl sz9 hc57 hf58)) ?_
            refine fin ?_
            refine n52 _ _ ?_
            refine c_seq (fun Q61 n59 o60 => ?_)
            refine c_region ?_
            refine stp (v := .agg #[Sl.v y22.1, Sl.v y22.2.1, .int .i64 y22.2.2.1]) rfl rfl (r_load (v1 := .pointer (some ⟨g5, 0, none⟩)) rfl rfl (bxn (B.get 1 rfl) Try.underlying26 rfl sz26)) ?_
            refine stp (v := .int .i64 y22.2.2.2) rfl rfl (r_move rfl rfl) ?_
            obtain ⟨w2, hr, B, H⟩ := B.stn H (i := 0) (T := 26) (cs' := #[Sl.v y22.1, Sl.v y22.2.1, .int .i64 y22.2.2.1]) (ad := ⟨g7, 0, none⟩) rfl rfl rfl rfl sz26
            refine stp0 rfl rfl (r_store (v1 := .pointer (some ⟨g7, 0, none⟩)) (v2 := .agg #[Sl.v y22.1, Sl.v y22.2.1, .int .i64 y22.2.2.1]) rfl rfl rfl hr) ?_
            replace B : Bx _ _ [⟨g7, 26, #[Sl.v y22.1, Sl.v y22.2.1, .int .i64 y22.2.2.1]⟩, ⟨g5, 26, #[Sl.v y22.1, Sl.v y22.2.1, .int .i64 y22.2.2.1]⟩] := B
            clear hr
            refine stp (v := .int .i64 y22.2.2.2) rfl rfl (r_assign rfl rfl) ?_
            refine fin ?_
            refine n59 _ _ ?_
            refine c_ret (o46 _ _ _ nofun ((done (vs := [.agg #[Sl.v y22.1, Sl.v y22.2.1, .int .i64 y22.2.2.1], .int .i64 y22.2.2.2]) (.cell rfl (bxn (B.get 0 rfl) Try.underlying26 rfl sz26) (.tmp rfl .nil)) rfl ⟨_, rfl, H.now⟩)))
          · replace H := at_itef hb51 H
            refine c_skip ?_
            refine n45 _ _ ?_
            refine c_seq (fun Q64 n62 o63 => ?_)
            refine c_region ?_
            refine stp (v := .int .i64 a2) rfl rfl (r_move rfl rfl) ?_
            refine stpc rfl rfl (r_call (vs := [.int .i64 a2]) rfl rfl (ca55 _ _)) ?_
            refine at_call B H (fun y65 w B H => ?_)
            refine stp (v := .int .i64 (IntKind.i64.wrap (y65.tdiv 4))) rfl rfl (r_quo (a := y65) (b := 4) rfl rfl rfl (by decide)) ?_
            refine stp (v := .int .i64 (IntKind.i64.wrap (y65.tdiv 4))) rfl rfl (r_assign rfl rfl) ?_
            refine fin ?_
            refine n62 _ _ ?_
            refine c_seq (fun Q68 n66 o67 => ?_)
            refine c_open 24 (kap [18, 23] [22]) (fun i b => .pointer (some ⟨b, 0, none⟩)) (fun _ => []) (fun i => bif Nat.beq i 23 then [(22, 13)] else []) [0, 1, 2, 3, 4, 5, 6, 7, 8, 9, 10, 11, 12, 13, 14, 15, 16, 17, 18, 19, 20, 21, 23] [(22, 13)] [(22, 26, #[Sl.v Sl.nil, Sl.v Sl.nil, .int .i64 0])] _ rfl (by kernel_rfl) (by kernel_rfl) rfl B (flk (by simp) (al_cons rfl (.inr rfl) (fun _ g hg => (r_alloc rfl (alloc_run (al26 _) rfl rfl))) al_nil)) ?_
            refine ph_q (v := .agg #[Sl.v y22.1, Sl.v y22.2.1, .int .i64 y22.2.2.1]) rfl rfl rfl (hv_ok rfl rfl) (qy_val rfl (fun w_ ρ_ hb_ => (r_load (v1 := .pointer (some ⟨g5, 0, none⟩)) rfl rfl (bxn (hb_.get 1 rfl) Try.underlying26 rfl sz26)))) ?_
            refine ph_q (v := .pointer (some ⟨g5, 0, none⟩)) rfl rfl rfl (hv_ok rfl rfl) (qy_val rfl (fun w_ ρ_ hb_ => (r_fieldAddr (v1 := .pointer (some ⟨g5, 0, none⟩)) rfl rfl (fld26_0 _ _)))) ?_
            refine ph_q (v := Sl.v y22.1) rfl rfl rfl (hv_ok rfl rfl) (qy_val rfl (fun w_ ρ_ hb_ => (r_load (v1 := .pointer (some ⟨g5, 0, none⟩)) rfl rfl (ld1 Try.underlying23 rfl (bx1 (hb_.get 1 rfl) rfl rfl))))) ?_
            refine ph_q (v := .int .i64 y22.2.2.2) rfl rfl rfl (hv_ok rfl rfl) (qy_val rfl (fun w_ ρ_ hb_ => (r_move rfl rfl))) ?_
            obtain ⟨p69, p70, he71, h072, h173, hpa74, H'⟩ := at_idx' H
            replace H := H'; clear H'
            refine ph_q (v := .pointer (some p70)) rfl rfl rfl (hv_ok rfl rfl) (qy_val rfl (fun w_ ρ_ hb_ => (r_indexAddr (v1 := Sl.v y22.1) (v2 := .int .i64 y22.2.2.2) rfl rfl rfl (ix' Try.underlying23 sz70 he71 h072 h173 hpa74)))) ?_
            refine ph_q (v := .pointer (some (p70.add 2))) rfl rfl rfl (hv_ok rfl rfl) (qy_val rfl (fun w_ ρ_ hb_ => (r_fieldAddr (v1 := .pointer (some p70)) rfl rfl (fld70_2 _ _)))) ?_
            obtain ⟨x75, hx76, H'⟩ := at_ldcz H
            replace H := H'; clear H'
            refine ph_q (v := Sl.v x75) rfl rfl rfl (hv_ok rfl rfl) (qy_val rfl (fun w_ ρ_ hb_ => (r_load (v1 := .pointer (some (p70.add 2))) rfl rfl (ld1 Try.underlying24 rfl (Cls.ld hx76 hb_))))) ?_
            refine ph_q (v := .int .i64 a3) rfl rfl rfl (hv_ok rfl rfl) (qy_val rfl (fun w_ ρ_ hb_ => (r_move rfl rfl))) ?_
            refine ph_q (v := .int .i64 (IntKind.i64.wrap (y65.tdiv 4))) rfl rfl rfl (hv_ok rfl rfl) (qy_val rfl (fun w_ ρ_ hb_ => (r_move rfl rfl))) ?_
            obtain ⟨ha, H'⟩ := at_ass H
            replace H := H'; clear H'
            have ha77 := ha
            refine ph_q (v := .int .i64 (IntKind.i64.wrap (a3.tdiv (IntKind.i64.wrap (y65.tdiv 4))))) rfl rfl rfl (hv_ok rfl rfl) (qy_val rfl (fun w_ ρ_ hb_ => (r_quo (a := a3) (b := IntKind.i64.wrap (y65.tdiv 4)) rfl rfl rfl ha77))) ?_
            clear ha
            obtain ⟨p78, p79, he80, h081, h182, hpa83, H'⟩ := at_idx' H
            replace H := H'; clear H'
            refine ph_q (v := .pointer (some p79)) rfl rfl rfl (hv_ok rfl rfl) (qy_val rfl (fun w_ ρ_ hb_ => (r_indexAddr (v1 := Sl.v x75) (v2 := .int .i64 (IntKind.i64.wrap (a3.tdiv (IntKind.i64.wrap (y65.tdiv 4))))) rfl rfl rfl (ix' Try.underlying24 sz3 he80 h081 h182 hpa83)))) ?_
            obtain ⟨x84, hx85, H'⟩ := at_ldcz H
            replace H := H'; clear H'
            refine ph_q (v := .int .i64 x84) rfl rfl rfl (hv_ok rfl rfl) (qy_val rfl (fun w_ ρ_ hb_ => (r_load (v1 := .pointer (some p79)) rfl rfl (ld1 Try.underlying3 rfl (Cls.ld hx85 hb_))))) ?_
            refine ph_q (v := .int .i64 a2) rfl rfl rfl (hv_ok rfl rfl) (qy_val rfl (fun w_ ρ_ hb_ => (r_move rfl rfl))) ?_
            refine ph_q (v := .int .i64 (IntKind.i64.wrap (a2 - 1))) rfl rfl rfl (hv_ok rfl rfl) (qy_val rfl (fun w_ ρ_ hb_ => (r_sub (a := a2) (b := 1) rfl rfl rfl))) ?_
            refine ph_q (v := .int .i64 a3) rfl rfl rfl (hv_ok rfl rfl) (qy_val rfl (fun w_ ρ_ hb_ => (r_move rfl rfl))) ?_
            refine ph_q (v := .int .i64 (IntKind.i64.wrap (y65.tdiv 4))) rfl rfl rfl (hv_ok rfl rfl) (qy_val rfl (fun w_ ρ_ hb_ => (r_move rfl rfl))) ?_
            obtain ⟨ha, H'⟩ := at_ass H
            replace H := H'; clear H'
            have ha86 := ha
            refine ph_q (v := .int .i64 (a3.tmod (IntKind.i64.wrap (y65.tdiv 4)))) rfl rfl rfl (hv_ok rfl rfl) (qy_val rfl (fun w_ ρ_ hb_ => (r_rem (a := a3) (b := IntKind.i64.wrap (y65.tdiv 4)) rfl rfl rfl ha86))) ?_
            clear ha
            refine ph_q (v := .string a4) rfl rfl rfl (hv_ok rfl rfl) (qy_val rfl (fun w_ ρ_ hb_ => (r_move rfl rfl))) ?_
            refine ph_e rfl rfl (fun w87 ρ91 hc hs => ?_)
            obtain ⟨hx, N88, hz89, B90⟩ := hc
            replace H := H.step hz89
            clear hz89
            refine ef_call rfl (r_call (vs := [.agg #[Sl.v y22.1, Sl.v y22.2.1, .int .i64 y22.2.2.1], .int .i64 x84, .int .i64 (IntKind.i64.wrap (a2 - 1)), .int .i64 (a3.tmod (IntKind.i64.wrap (y65.tdiv 4))), .string a4]) rfl rfl (ca31 _ _)) (at_call B90 H (fun y92 w2 B H => ?_))
            refine ⟨Cls w2 N88 [⟨g7, 26, #[Sl.v Sl.nil, Sl.v Sl.nil, .int .i64 0]⟩, ⟨g5, 26, #[Sl.v y22.1, Sl.v y22.2.1, .int .i64 y22.2.2.1]⟩] [(22, 26, #[Sl.v Sl.nil, Sl.v Sl.nil, .int .i64 0])] [], Cls.now hx B, (flk (by simp) (al_cons rfl (.inr rfl) (fun _ g hg => (r_alloc rfl (alloc_run (al26 _) rfl rfl))) al_nil)), (pd_anc (re := []) (by kernel_rfl) re_nil), ?_⟩
            clear hx
            replace B := B.sub (List.sublist_append_right _ _)
            refine ph_q (v := .tuple #[.agg #[Sl.v y92.1, Sl.v y92.2.1, .int .i64 y92.2.2.1], .int .i64 y92.2.2.2]) rfl rfl rfl (hv_ok rfl rfl) (qy_val rfl (fun w_ ρ_ hb_ => (r_move rfl rfl))) ?_
            refine ph_q (v := .agg #[Sl.v y92.1, Sl.v y92.2.1, .int .i64 y92.2.2.1]) rfl rfl rfl (hv_ok rfl rfl) (qy_val rfl (fun w_ ρ_ hb_ => (r_extract (v1 := .tuple #[.agg #[Sl.v y92.1, Sl.v y92.2.1, .int .i64 y92.2.2.1], .int .i64 y92.2.2.2]) rfl rfl rfl))) ?_
            refine ph_q (v := .int .i64 y92.2.2.2) rfl rfl rfl (hv_ok rfl rfl) (qy_val rfl (fun w_ ρ_ hb_ => (r_extract (v1 := .tuple #[.agg #[Sl.v y92.1, Sl.v y92.2.1, .int .i64 y92.2.2.1], .int .i64 y92.2.2.2]) rfl rfl rfl))) ?_
            refine ph_e rfl rfl (fun w93 ρ97 hc hs => ?_)
            obtain ⟨hx, N94, hz95, B96⟩ := hc
            replace H := H.step hz95
            clear hz95
            obtain ⟨g98, hg22⟩ := Option.isSome_iff_exists.1 (hs (22, 13) (by simp))
            replace B96 : Bx w93 N94 (flb [] ρ97 ++ [⟨g7, 26, #[Sl.v Sl.nil, Sl.v Sl.nil, .int .i64 0]⟩, ⟨g5, 26, #[Sl.v y22.1, Sl.v y22.2.1, .int .i64 y22.2.2.1]⟩, ⟨g98, 26, #[Sl.v Sl.nil, Sl.v Sl.nil, .int .i64 0]⟩]) := (show Bx w93 N94 (⟨g98, 26, #[Sl.v Sl.nil, Sl.v Sl.nil, .int .i64 0]⟩ :: (flb [] ρ97 ++ [⟨g7, 26, #[Sl.v Sl.nil, Sl.v Sl.nil, .int .i64 0]⟩, ⟨g5, 26, #[Sl.v y22.1, Sl.v y22.2.1, .int .i64 y22.2.2.1]⟩])) by simpa only [flb, List.filterMap_cons, hg22, Option.map_some, List.cons_append] using B96).perm (by rw [show ([⟨g7, 26, #[Sl.v Sl.nil, Sl.v Sl.nil, .int .i64 0]⟩, ⟨g5, 26, #[Sl.v y22.1, Sl.v y22.2.1, .int .i64 y22.2.2.1]⟩, ⟨g98, 26, #[Sl.v Sl.nil, Sl.v Sl.nil, .int .i64 0]⟩] : List Bk) = ([⟨g7, 26, #[Sl.v Sl.nil, Sl.v Sl.nil, .int .i64 0]⟩, ⟨g5, 26, #[Sl.v y22.1, Sl.v y22.2.1, .int .i64 y22.2.2.1]⟩] : List Bk) ++ ([⟨g98, 26, #[Sl.v Sl.nil, Sl.v Sl.nil, .int .i64 0]⟩] : List Bk) from rfl, ← List.append_assoc]; exact (List.perm_append_singleton _ _))
            replace hx := hx_cons hg22 hx
            refine EF_frame (f' := updl _ [(13, .pointer (some ⟨g98, 0, none⟩))]) (wfl_cons hg22 rfl wfl_nil) ?_
            replace B96 : Bx _ _ ([⟨g7, 26, #[Sl.v Sl.nil, Sl.v Sl.nil, .int .i64 0]⟩, ⟨g5, 26, #[Sl.v y22.1, Sl.v y22.2.1, .int .i64 y22.2.2.1]⟩, ⟨g98, 26, #[Sl.v Sl.nil, Sl.v Sl.nil, .int .i64 0]⟩] ++ flb [] ρ97) := B96.perm List.perm_append_comm
            obtain ⟨w2, hr, B, H⟩ := B96.stn H (i := 2) (T := 26) (cs' := #[Sl.v y92.1, Sl.v y92.2.1, .int .i64 y92.2.2.1]) (ad := ⟨g98, 0, none⟩) rfl rfl rfl rfl sz26
            refine ef_skp (w' := w2) rfl (r_store (v1 := .pointer (some ⟨g98, 0, none⟩)) (v2 := .agg #[Sl.v y92.1, Sl.v y92.2.1, .int .i64 y92.2.2.1]) rfl rfl rfl hr) ?_
            clear hr
            replace B : Bx _ _ ([⟨g7, 26, #[Sl.v Sl.nil, Sl.v Sl.nil, .int .i64 0]⟩, ⟨g5, 26, #[Sl.v y22.1, Sl.v y22.2.1, .int .i64 y22.2.2.1]⟩, ⟨g98, 26, #[Sl.v y92.1, Sl.v y92.2.1, .int .i64 y92.2.2.1]⟩] ++ flb [] ρ97) := B
            replace B := B.perm List.perm_append_comm
            refine ⟨Cls w2 N94 [⟨g7, 26, #[Sl.v Sl.nil, Sl.v Sl.nil, .int .i64 0]⟩, ⟨g5, 26, #[Sl.v y22.1, Sl.v y22.2.1, .int .i64 y22.2.2.1]⟩, ⟨g98, 26, #[Sl.v y92.1, Sl.v y92.2.1, .int .i64 y92.2.2.1]⟩] [] [(22, g98)], Cls.now hx B, (flk (by simp) (al_cons rfl (.inl rfl) (fun _ g hg => (r_alloc rfl (alloc_run (al26 _) rfl rfl))) al_nil)), (pd_anc (re := [21]) (by kernel_rfl) (re_cons rfl rfl rfl (qy_val rfl (fun w_ ρ_ hb_ => (r_extract (v1 := .tuple #[.agg #[Sl.v y92.1, Sl.v y92.2.1, .int .i64 y92.2.2.1], .int .i64 y92.2.2.2]) rfl rfl rfl))) re_nil)), ?_⟩
            clear hx
            replace B := B.sub (List.sublist_append_right _ _)
            refine ph_nil (fun w ρ N hz hx B hs => ?_)
            replace H := H.step hz
            have hg22 := hx (22, g98) (by simp)
            replace hg22 : ρ 22 = some g98 := hg22
            replace B : Bx w N [⟨g7, 26, #[Sl.v Sl.nil, Sl.v Sl.nil, .int .i64 0]⟩, ⟨g5, 26, #[Sl.v y22.1, Sl.v y22.2.1, .int .i64 y22.2.2.1]⟩, ⟨g98, 26, #[Sl.v y92.1, Sl.v y92.2.1, .int .i64 y92.2.2.1]⟩] := by simpa only [flb, List.filterMap_cons, List.filterMap_nil, hg22, Option.map_some, List.cons_append, List.nil_append] using B
            refine WL_frame (f' := updl _ [(13, .pointer (some ⟨g98, 0, none⟩))]) (wfl_cons hg22 rfl wfl_nil) ?_
            replace B : Bx w N [⟨g98, 26, #[Sl.v y92.1, Sl.v y92.2.1, .int .i64 y92.2.2.1]⟩, ⟨g7, 26, #[Sl.v Sl.nil, Sl.v Sl.nil, .int .i64 0]⟩, ⟨g5, 26, #[Sl.v y22.1, Sl.v y22.2.1, .int .i64 y22.2.2.1]⟩] := (show Bx w N (([⟨g7, 26, #[Sl.v Sl.nil, Sl.v Sl.nil, .int .i64 0]⟩, ⟨g5, 26, #[Sl.v y22.1, Sl.v y22.2.1, .int .i64 y22.2.2.1]⟩] : List Bk) ++ ([⟨g98, 26, #[Sl.v y92.1, Sl.v y92.2.1, .int .i64 y92.2.2.1]⟩] : List Bk)) from B).perm (List.perm_append_comm (l₁ := ([⟨g98, 26, #[Sl.v y92.1, Sl.v y92.2.1, .int .i64 y92.2.2.1]⟩] : List Bk)))
            refine stp (v := .int .i64 y92.2.2.2) rfl rfl (r_assign rfl rfl) ?_
            refine fin ?_
            refine n66 _ _ ?_
            refine c_seq (fun Q101 n99 o100 => ?_)
            refine c_open 10 (kap [] []) (fun i b => .pointer (some ⟨b, 0, none⟩)) (fun _ => []) (fun i => []) [0, 1, 2, 3, 4, 5, 6, 7, 8, 9] [] [] _ rfl (by kernel_rfl) (by kernel_rfl) rfl B (flk (by simp) al_nil) ?_
            refine ph_q (v := .pointer (some ⟨g98, 0, none⟩)) rfl rfl rfl (hv_ok rfl rfl) (qy_val rfl (fun w_ ρ_ hb_ => (r_fieldAddr (v1 := .pointer (some ⟨g98, 0, none⟩)) rfl rfl (fld26_0 _ _)))) ?_
            refine ph_q (v := Sl.v y92.1) rfl rfl rfl (hv_ok rfl rfl) (qy_val rfl (fun w_ ρ_ hb_ => (r_load (v1 := .pointer (some ⟨g98, 0, none⟩)) rfl rfl (ld1 Try.underlying23 rfl (bx1 (hb_.get 0 rfl) rfl rfl))))) ?_
            refine ph_q (v := .int .i64 y22.2.2.2) rfl rfl rfl (hv_ok rfl rfl) (qy_val rfl (fun w_ ρ_ hb_ => (r_move rfl rfl))) ?_
            obtain ⟨p102, p103, he104, h0105, h1106, hpa107, H'⟩ := at_idx' H
            replace H := H'; clear H'
            refine ph_q (v := .pointer (some p103)) rfl rfl rfl (hv_ok rfl rfl) (qy_val rfl (fun w_ ρ_ hb_ => (r_indexAddr (v1 := Sl.v y92.1) (v2 := .int .i64 y22.2.2.2) rfl rfl rfl (ix' Try.underlying23 sz70 he104 h0105 h1106 hpa107)))) ?_
            refine ph_q (v := .pointer (some (p103.add 2))) rfl rfl rfl (hv_ok rfl rfl) (qy_val rfl (fun w_ ρ_ hb_ => (r_fieldAddr (v1 := .pointer (some p103)) rfl rfl (fld70_2 _ _)))) ?_
            obtain ⟨x108, hx109, H'⟩ := at_ldcz H
            replace H := H'; clear H'
            refine ph_q (v := Sl.v x108) rfl rfl rfl (hv_ok rfl rfl) (qy_val rfl (fun w_ ρ_ hb_ => (r_load (v1 := .pointer (some (p103.add 2))) rfl rfl (ld1 Try.underlying24 rfl (Cls.ld hx109 hb_))))) ?_
            refine ph_q (v := .int .i64 a3) rfl rfl rfl (hv_ok rfl rfl) (qy_val rfl (fun w_ ρ_ hb_ => (r_move rfl rfl))) ?_
            refine ph_q (v := .int .i64 (IntKind.i64.wrap (y65.tdiv 4))) rfl rfl rfl (hv_ok rfl rfl) (qy_val rfl (fun w_ ρ_ hb_ => (r_move rfl rfl))) ?_
            obtain ⟨ha, H'⟩ := at_ass H
            replace H := H'; clear H'
            have ha110 := ha
            refine ph_q (v := .int .i64 (IntKind.i64.wrap (a3.tdiv (IntKind.i64.wrap (y65.tdiv 4))))) rfl rfl rfl (hv_ok rfl rfl) (qy_val rfl (fun w_ ρ_ hb_ => (r_quo (a := a3) (b := IntKind.i64.wrap (y65.tdiv 4)) rfl rfl rfl ha110))) ?_
            clear ha
            refine ph_q (v := .int .i64 y92.2.2.2) rfl rfl rfl (hv_ok rfl rfl) (qy_val rfl (fun w_ ρ_ hb_ => (r_move rfl rfl))) ?_
            refine ph_nil0 (fun w N hz B => ?_)
            replace H := H.step hz
            obtain ⟨p111, p112, he, h0, h1, hpa, H'⟩ := at_idx' H
            replace H := H'; clear H'
            refine stp (v := .pointer (some p112)) rfl rfl (r_indexAddr (v1 := Sl.v x108) (v2 := .int .i64 (IntKind.i64.wrap (a3.tdiv (IntKind.i64.wrap (y65.tdiv 4))))) rfl rfl rfl (ix' Try.underlying24 sz3 he h0 h1 hpa)) ?_
            clear he h0 h1 hpa
            obtain ⟨hc113, hf114, B', H'⟩ := at_stc B H
            replace B := B'; clear B'
            replace H := H'; clear H'
            refine stp0 rfl rfl (r_store (v1 := .pointer (some p112)) (v2 := .int .i64 y92.2.2.2) rfl rfl rfl (st1 rfl sz3 hc113 hf114)) ?_
            refine fin ?_
            refine n99 _ _ ?_
            refine c_seq (fun Q117 n115 o116 => ?_)
            refine c_seq (fun Q120 n118 o119 => ?_)
            refine c_region ?_
            refine stp (v := .pointer (some ⟨g98, 0, none⟩)) rfl rfl (r_fieldAddr (v1 := .pointer (some ⟨g98, 0, none⟩)) rfl rfl (fld26_0 _ _)) ?_
            refine stp (v := Sl.v y92.1) rfl rfl (r_load (v1 := .pointer (some ⟨g98, 0, none⟩)) rfl rfl (ld1 Try.underlying23 rfl (bx1 (B.get 0 rfl) rfl rfl))) ?_
            refine stp (v := .int .i64 y22.2.2.2) rfl rfl (r_move rfl rfl) ?_
            obtain ⟨p121, p122, he, h0, h1, hpa, H'⟩ := at_idx' H
            replace H := H'; clear H'
            refine stp (v := .pointer (some p122)) rfl rfl (r_indexAddr (v1 := Sl.v y92.1) (v2 := .int .i64 y22.2.2.2) rfl rfl rfl (ix' Try.underlying23 sz70 he h0 h1 hpa)) ?_
            clear he h0 h1 hpa
            refine stp (v := .pointer (some (p122.add 2))) rfl rfl (r_fieldAddr (v1 := .pointer (some p122)) rfl rfl (fld70_2 _ _)) ?_
            obtain ⟨x123, hx124, H'⟩ := at_ldc H
            replace H := H'; clear H'
            refine stp (v := Sl.v x123) rfl rfl (r_load (v1 := .pointer (some (p122.add 2))) rfl rfl (ld1 Try.underlying24 rfl (hx124 _ (Below.refl _ _)))) ?_
            refine stp (v := .int .i64 (x123.n : Int)) rfl rfl (r_builtin (vs := [Sl.v x123]) rfl rfl (fun _ => lenl Try.underlying24)) ?_
            refine stp (v := .int .i64 0) rfl rfl (r_move rfl rfl) ?_
            refine fin ?_
            refine n118 _ _ ?_
            refine c_block (fun Q128 n125 x127 o126 => ?_)
            refine c_loop (σ := Int) (s0 := 0) (fun s => [(1, .int .i64 y22.2.2.2), (10, .pointer (some ⟨g7, 0, none⟩)), (13, .pointer (some ⟨g98, 0, none⟩)), (95, Sl.v x123), (96, .int .i64 (x123.n : Int)), (97, .int .i64 s)]) (fun s => [⟨g98, 26, #[Sl.v y92.1, Sl.v y92.2.1, .int .i64 y92.2.2.1]⟩, ⟨g7, 26, #[Sl.v Sl.nil, Sl.v Sl.nil, .int .i64 0]⟩, ⟨g5, 26, #[Sl.v y22.1, Sl.v y22.2.1, .int .i64 y22.2.2.1]⟩]) B H rfl ?_
            rintro Q131 next132 s3_97 g w N nx129 o130 B H
            refine c_seq (fun Q135 n133 o134 => ?_)
            refine c_region ?_
            refine stp (v := .bool (decide (s3_97 < (x123.n : Int)))) rfl rfl (r_lss (a := s3_97) (b := (x123.n : Int)) rfl rfl rfl) ?_
            refine fin ?_
            refine n133 _ _ ?_
            refine c_seq (fun Q138 n136 o137 => ?_)
            refine c_cond (b := decide (s3_97 < (x123.n : Int))) rfl (fun hb139 => ?_) (fun hb139 => ?_)
            · replace H := at_itet hb139 H
              refine c_skip ?_
              refine n136 _ _ ?_
              refine c_seq (fun Q142 n140 o141 => ?_)
              refine c_block (fun Q146 n143 x145 o144 => ?_)
              refine c_seq (fun Q149 n147 o148 => ?_)
              refine c_region ?_
              obtain ⟨p150, p151, he, h0, h1, hpa, H'⟩ := at_idx' H
              replace H := H'; clear H'
              refine stp (v := .pointer (some p151)) rfl rfl (r_indexAddr (v1 := Sl.v x123) (v2 := .int .i64 s3_97) rfl rfl rfl (ix' Try.underlying24 sz3 he h0 h1 hpa)) ?_
              clear he h0 h1 hpa
              obtain ⟨x152, hx153, H'⟩ := at_ldc H
              replace H := H'; clear H'
              refine stp (v := .int .i64 x152) rfl rfl (r_load (v1 := .pointer (some p151)) rfl rfl (ld1 Try.underlying3 rfl (hx153 _ (Below.refl _ _)))) ?_
              refine stp (v := .int .i64 x152) rfl rfl (r_assign rfl rfl) ?_
              refine fin ?_
              refine n147 _ _ ?_
              refine c_seq (fun Q156 n154 o155 => ?_)
              refine c_region ?_
              refine stp (v := .int .i64 x152) rfl rfl (r_move rfl rfl) ?_
              refine stp (v := .bool (decide (0 ≤ x152))) rfl rfl (r_geq (a := x152) (b := 0) rfl rfl rfl) ?_
              refine fin ?_
              refine n154 _ _ ?_
              refine c_cond (b := decide (0 ≤ x152)) rfl (fun hb157 => ?_) (fun hb157 => ?_)
              · replace H := at_itet hb157 H
                refine c_seq (fun Q160 n158 o159 => ?_)
                refine c_region ?_
                refine stp (v := .agg #[Sl.v y92.1, Sl.v y92.2.1, .int .i64 y92.2.2.1]) rfl rfl (r_load (v1 := .pointer (some ⟨g98, 0, none⟩)) rfl rfl (bxn (B.get 0 rfl) Try.underlying26 rfl sz26)) ?_
                refine stp (v := .int .i64 y22.2.2.2) rfl rfl (r_move rfl rfl) ?_
                obtain ⟨w2, hr, B, H⟩ := B.stn H (i := 1) (T := 26) (cs' := #[Sl.v y92.1, Sl.v y92.2.1, .int .i64 y92.2.2.1]) (ad := ⟨g7, 0, none⟩) rfl rfl rfl rfl sz26
                refine stp0 rfl rfl (r_store (v1 := .pointer (some ⟨g7, 0, none⟩)) (v2 := .agg #[Sl.v y92.1, Sl.v y92.2.1, .int .i64 y92.2.2.1]) rfl rfl rfl hr) ?_
                replace B : Bx _ _ [⟨g98, 26, #[Sl.v y92.1, Sl.v y92.2.1, .int .i64 y92.2.2.1]⟩, ⟨g7, 26, #[Sl.v y92.1, Sl.v y92.2.1, .int .i64 y92.2.2.1]⟩, ⟨g5, 26, #[Sl.v y22.1, Sl.v y22.2.1, .int .i64 y22.2.2.1]⟩] := B
                clear hr
                refine stp (v := .int .i64 y22.2.2.2) rfl rfl (r_assign rfl rfl) ?_
                refine fin ?_
                refine n158 _ _ ?_
                refine c_ret (o144 _ _ _ nofun (by simp) (o141 _ _ _ nofun (o130 _ _ _ nofun (o126 _ _ _ nofun (by simp) (o116 _ _ _ nofun ((done (vs := [.agg #[Sl.v y92.1, Sl.v y92.2.1, .int .i64 y92.2.2.1], .int .i64 y22.2.2.2]) (.cell rfl (bxn (B.get 1 rfl) Try.underlying26 rfl sz26) (.tmp rfl .nil)) rfl ⟨_, rfl, H.now⟩)))))))
              · replace H := at_itef hb157 H
                refine c_skip ?_
                refine n143 _ _ ?_
                refine n140 _ _ ?_
                refine c_region ?_
                refine stp (v := .int .i64 (IntKind.i64.wrap (s3_97 + 1))) rfl rfl (r_add (a := s3_97) (b := 1) rfl rfl rfl) ?_
                refine stp (v := .int .i64 (IntKind.i64.wrap (s3_97 + 1))) rfl rfl (r_move rfl rfl) ?_
                refine fin ?_
                exact nx129 (IntKind.i64.wrap (s3_97 + 1)) _ _ _ B H rfl
            · replace H := at_itef hb139 H
              refine c_exit (o137 _ _ _ nofun (o130 _ _ _ nofun (x127 _ _ ?_)))
              refine n115 _ _ ?_
              refine c_seq (fun Q163 n161 o162 => ?_)
              refine c_region ?_
              refine stp (v := .pointer (some ⟨g98, 0, none⟩)) rfl rfl (r_fieldAddr (v1 := .pointer (some ⟨g98, 0, none⟩)) rfl rfl (fld26_0 _ _)) ?_
              refine stp (v := Sl.v y92.1) rfl rfl (r_load (v1 := .pointer (some ⟨g98, 0, none⟩)) rfl rfl (ld1 Try.underlying23 rfl (bx1 (B.get 0 rfl) rfl rfl))) ?_
              refine stp (v := .int .i64 y22.2.2.2) rfl rfl (r_move rfl rfl) ?_
              refine stp (v := .agg #[.int .i64 0, .string (⟨#[]⟩ : ByteArray), Sl.v Sl.nil]) rfl rfl (r_build (qs := []) rfl rfl (site8  _)) ?_
              obtain ⟨p164, p165, he, h0, h1, hpa, H'⟩ := at_idx' H
              replace H := H'; clear H'
              refine stp (v := .pointer (some p165)) rfl rfl (r_indexAddr (v1 := Sl.v y92.1) (v2 := .int .i64 y22.2.2.2) rfl rfl rfl (ix' Try.underlying23 sz70 he h0 h1 hpa)) ?_
              clear he h0 h1 hpa
              obtain ⟨hc166, hf167, B', H'⟩ := at_stc B H
              replace B := B'; clear B'
              replace H := H'; clear H'
              obtain ⟨hc168, hf169, B', H'⟩ := at_stc B H
              replace B := B'; clear B'
              replace H := H'; clear H'
              obtain ⟨hc170, hf171, B', H'⟩ := at_stc B H
              replace B := B'; clear B'
              replace H := H'; clear H'
              refine stp0 rfl rfl (r_store (v1 := .pointer (some p165)) (v2 := .agg #[.int .i64 0, .string (⟨#[]⟩ : ByteArray), Sl.v Sl.nil]) rfl rfl rfl (stn (N := fun _ => False) sz70 (.cons rfl hc166 hf167 (.cons rfl hc168 hf169 (.cons rfl hc170 hf171 .nil))))) ?_
              refine fin ?_
              refine n161 _ _ ?_
              refine c_seq (fun Q174 n172 o173 => ?_)
              refine c_region ?_
              refine stp (v := .agg #[Sl.v y92.1, Sl.v y92.2.1, .int .i64 y92.2.2.1]) rfl rfl (r_load (v1 := .pointer (some ⟨g98, 0, none⟩)) rfl rfl (bxn (B.get 0 rfl) Try.underlying26 rfl sz26)) ?_
              obtain ⟨w2, hr, B, H⟩ := B.stn H (i := 1) (T := 26) (cs' := #[Sl.v y92.1, Sl.v y92.2.1, .int .i64 y92.2.2.1]) (ad := ⟨g7, 0, none⟩) rfl rfl rfl rfl sz26
              refine stp0 rfl rfl (r_store (v1 := .pointer (some ⟨g7, 0, none⟩)) (v2 := .agg #[Sl.v y92.1, Sl.v y92.2.1, .int .i64 y92.2.2.1]) rfl rfl rfl hr) ?_
              replace B : Bx _ _ [⟨g98, 26, #[Sl.v y92.1, Sl.v y92.2.1, .int .i64 y92.2.2.1]⟩, ⟨g7, 26, #[Sl.v y92.1, Sl.v y92.2.1, .int .i64 y92.2.2.1]⟩, ⟨g5, 26, #[Sl.v y22.1, Sl.v y22.2.1, .int .i64 y22.2.2.1]⟩] := B
              clear hr
              refine stp (v := .int .i64 (-1)) rfl rfl (r_assign rfl rfl) ?_
              refine fin ?_
              refine n172 _ _ ?_
              refine c_ret ((done (vs := [.agg #[Sl.v y92.1, Sl.v y92.2.1, .int .i64 y92.2.2.1], .int .i64 (-1)]) (.cell rfl (bxn (B.get 1 rfl) Try.underlying26 rfl sz26) (.tmp rfl .nil)) rfl ⟨_, rfl, H.now⟩))
def f32_impl_GoodCow_1.T (R : Value → World → Prop) (a0 : Int) (a1 : Int) (c0 : Addr) (c1 : Addr) (c2 : Addr) (c3 : Addr) : Tm :=
  T.ldc (c0.add 0) Sl.v fun (x10_0 : Sl) => T.ldc (c0.add 1) Sl.v fun (x10_1 : Sl) => T.ldc (c0.add 2) (Value.int .i64) fun (x10_2 : Int) => T.call Try.prog 33 [.agg #[Sl.v x10_0, Sl.v x10_1, .int .i64 x10_2], .int .i64 a0] Value.bool fun (y14 : Bool) => T.ite (!y14) (T.ret R (.bool false)) (T.ite (decide (a0 < 0)) (T.ret R (.bool true)) (T.ldc c1 Sl.v fun (x32 : Sl) => T.idx x32 a0 1 fun (p35 : Addr) => T.ldc p35 (Value.int .i64) fun (x36 : Int) => T.idx x32 a0 1 fun (p39 : Addr) => T.stc p39 (.int .i64 (IntKind.i64.wrap (x36 + 1))) (T.ldc c2 Sl.v fun (x48 : Sl) => T.idx x48 a0 1 fun (p51 : Addr) => T.ldc p51 (Value.int .i64) fun (x52 : Int) => T.ite (x52 == 0) (T.ldc c2 Sl.v fun (x58 : Sl) => T.idx x58 a0 1 fun (p61 : Addr) => T.stc p61 (.int .i64 a1) (T.ldc c3 Sl.v fun (x67 : Sl) => T.new (.cells #[.int .i64 a0] 3) fun (g70 : Nat) => T.run Try.prog (Builtin.append_ #[24, 24] 24 #[Sl.v x67, Sl.v (⟨some ⟨g70, 0, none⟩, 1, 1⟩ : Sl)]) Sl.v fun (y71 : Sl) => T.stc c3 (Sl.v y71) (T.ldc (c0.add 0) Sl.v fun (x77_0 : Sl) => T.ldc (c0.add 1) Sl.v fun (x77_1 : Sl) => T.ldc (c0.add 2) (Value.int .i64) fun (x77_2 : Int) => T.ldc (c0.add 0) Sl.v fun (x81 : Sl) => T.idx x81 a0 3 fun (p84 : Addr) => T.ldc (p84.add 0) (Value.int .i64) fun (x85_0 : Int) => T.ldc (p84.add 1) Value.string fun (x85_1 : ByteArray) => T.ldc (p84.add 2) Sl.v fun (x85_2 : Sl) => T.callq Try.prog 34 [.agg #[Sl.v x77_0, Sl.v x77_1, .int .i64 x77_2], .agg #[.int .i64 x85_0, .string x85_1, Sl.v x85_2], .int .i64 a1] Value.bool fun (y89 : Bool) => T.ret R (.bool y89)))) (T.ldc c2 Sl.v fun (x93 : Sl) => T.idx x93 a0 1 fun (p96 : Addr) => T.ldc p96 (Value.int .i64) fun (x97 : Int) => T.ret R (.bool (x97 == a1))))))
set_option maxHeartbeats 4000000 in
set_option maxRecDepth 100000 in
theorem f32_impl_GoodCow_1.ok (R : Value → World → Prop) (a0 : Int) (a1 : Int) (c0 : Addr) (c1 : Addr) (c2 : Addr) (c3 : Addr) (w : World) (h : Aft w (fun _ => False) (f32_impl_GoodCow_1.T R a0 a1 c0 c1 c2 c3)) :
    Calls Try.prog 32 (List.toArray [.int .i64 a0, .int .i64 a1, .pointer (some c0), .pointer (some c1), .pointer (some c2), .pointer (some c3)]) w fun e w' => ∃ v, e = .returned v ∧ R v w' := by
  refine enter 48 Try.func32 rfl rfl rfl ?_
  have B := Bx.nil w
  have H := h
  clear h
  refine c_seq (fun Q3 n1 o2 => ?_)
  refine c_region ?_
  refine stp (v := .bool false) rfl rfl (r_assign rfl rfl) ?_
  refine fin ?_
  refine n1 _ _ ?_
  refine c_seq (fun Q6 n4 o5 => ?_)
  refine c_seq (fun Q9 n7 o8 => ?_)
  refine c_region ?_
  obtain ⟨x10_0, hx11, H'⟩ := at_ldc H
  replace H := H'; clear H'
  obtain ⟨x10_1, hx12, H'⟩ := at_ldc H
  replace H := H'; clear H'
  obtain ⟨x10_2, hx13, H'⟩ := at_ldc H
  replace H := H'; clear H'
  refine stp (v := .agg #[Sl.v x10_0, Sl.v x10_1, .int .i64 x10_2]) rfl rfl (r_load (v1 := .pointer (some c0)) rfl rfl (ldn (cs := [Sl.v x10_0, Sl.v x10_1, .int .i64 x10_2]) Try.underlying26 rfl sz26 (cells_start (cells_cons (m := 0) (hx11 _ (Below.refl _ _)) (cells_cons (m := 1) (hx12 _ (Below.refl _ _)) (cells_cons (m := 2) (hx13 _ (Below.refl _ _)) cells_nil)))))) ?_
  refine stp (v := .int .i64 a0) rfl rfl (r_move rfl rfl) ?_
  refine stpc rfl rfl (r_call (vs := [.agg #[Sl.v x10_0, Sl.v x10_1, .int .i64 x10_2], .int .i64 a0]) rfl rfl (ca33 _ _)) ?_
  refine at_call B H (fun y14 w B H => ?_)
  refine stp (v := .bool (!y14)) rfl rfl (r_not (b := y14) rfl rfl) ?_
  refine fin ?_
  refine n7 _ _ ?_
  refine c_cond (b := !y14) rfl (fun hb15 => ?_) (fun hb15 => ?_)
  · replace H := at_itet hb15 H
    refine c_seq (fun Q18 n16 o17 => ?_)
    refine c_region ?_
    refine stp (v := .bool false) rfl rfl (r_assign rfl rfl) ?_
    refine fin ?_
    refine n16 _ _ ?_
    refine c_ret (o5 _ _ _ nofun ((done (vs := [.bool false]) (.tmp rfl .nil) rfl ⟨_, rfl, H.now⟩)))
  · replace H := at_itef hb15 H
    refine c_skip ?_
    refine n4 _ _ ?_
    refine c_seq (fun Q21 n19 o20 => ?_)
    refine c_seq (fun Q24 n22 o23 => ?_)
    refine c_region ?_
    refine stp (v := .int .i64 a0) rfl rfl (r_move rfl rfl) ?_
    refine stp (v := .bool (decide (a0 < 0))) rfl rfl (r_lss (a := a0) (b := 0) rfl rfl rfl) ?_
    refine fin ?_
    refine n22 _ _ ?_
    refine c_cond (b := decide (a0 < 0)) rfl (fun hb25 => ?_) (fun hb25 => ?_)
    · replace H := at_itet hb25 H
      refine c_seq (fun Q28 n26 o27 => ?_)
      refine c_region ?_
      refine stp (v := .bool true) rfl rfl (r_assign rfl rfl) ?_
      refine fin ?_
      refine n26 _ _ ?_
      refine c_ret (o20 _ _ _ nofun ((done (vs := [.bool true]) (.tmp rfl .nil) rfl ⟨_, rfl, H.now⟩)))
    · replace H := at_itef hb25 H
      refine c_skip ?_
      refine n19 _ _ ?_
      refine c_seq (fun Q31 n29 o30 => ?_)
      refine c_region ?_
      obtain ⟨x32, hx33, H'⟩ := at_ldc H
      replace H := H'; clear H'
      refine stp (v := Sl.v x32) rfl rfl (r_load (v1 := .pointer (some c1)) rfl rfl (ld1 Try.underlying24 rfl (hx33 _ (Below.refl _ _)))) ?_
      refine stp (v := .int .i64 a0) rfl rfl (r_move rfl rfl) ?_
      obtain ⟨p34, p35, he, h0, h1, hpa, H'⟩ := at_idx' H
      replace H := H'; clear H'
      refine stp (v := .pointer (some p35)) rfl rfl (r_indexAddr (v1 := Sl.v x32) (v2 := .int .i64 a0) rfl rfl rfl (ix' Try.underlying24 sz3 he h0 h1 hpa)) ?_
      clear he h0 h1 hpa
      obtain ⟨x36, hx37, H'⟩ := at_ldc H
      replace H := H'; clear H'
      refine stp (v := .int .i64 x36) rfl rfl (r_load (v1 := .pointer (some p35)) rfl rfl (ld1 Try.underlying3 rfl (hx37 _ (Below.refl _ _)))) ?_
      refine stp (v := .int .i64 (IntKind.i64.wrap (x36 + 1))) rfl rfl (r_add (a := x36) (b := 1) rfl rfl rfl) ?_
      obtain ⟨p38, p39, he, h0, h1, hpa, H'⟩ := at_idx' H
      replace H := H'; clear H'
      refine stp (v := .pointer (some p39)) rfl rfl (r_indexAddr (v1 := Sl.v x32) (v2 := .int .i64 a0) rfl rfl rfl (ix' Try.underlying24 sz3 he h0 h1 hpa)) ?_
      clear he h0 h1 hpa
      obtain ⟨hc40, hf41, B', H'⟩ := at_stc B H
      replace B := B'; clear B'
      replace H := H'; clear H'
      refine stp0 rfl rfl (r_store (v1 := .pointer (some p39)) (v2 := .int .i64 (IntKind.i64.wrap (x36 + 1))) rfl rfl rfl (st1 rfl sz3 hc40 hf41)) ?_
      refine fin ?_
      refine n29 _ _ ?_
      refine c_seq (fun Q44 n42 o43 => ?_)
      refine c_seq (fun Q47 n45 o46 => ?_)
      refine c_region ?_
      obtain ⟨x48, hx49, H'⟩ := at_ldc H
      replace H := H'; clear H'
      refine stp (v := Sl.v x48) rfl rfl (r_load (v1 := .pointer (some c2)) rfl rfl (ld1 Try.underlying24 rfl (hx49 _ (Below.refl _ _)))) ?_
      refine stp (v := .int .i64 a0) rfl rfl (r_move rfl rfl) ?_
      obtain ⟨p50, p51, he, h0, h1, hpa, H'⟩ := at_idx' H
      replace H := H'; clear H'
      refine stp (v := .pointer (some p51)) rfl rfl (r_indexAddr (v1 := Sl.v x48) (v2 := .int .i64 a0) rfl rfl rfl (ix' Try.underlying24 sz3 he h0 h1 hpa)) ?_
      clear he h0 h1 hpa
      obtain ⟨x52, hx53, H'⟩ := at_ldc H
      replace H := H'; clear H'
      refine stp (v := .int .i64 x52) rfl rfl (r_load (v1 := .pointer (some p51)) rfl rfl (ld1 Try.underlying3 rfl (hx53 _ (Below.refl _ _)))) ?_
      refine stp (v := .bool (x52 == 0)) rfl rfl (r_eql (a := x52) (b := 0) rfl rfl rfl) ?_
      refine fin ?_
      refine n45 _ _ ?_
      refine c_cond (b := x52 == 0) rfl (fun hb54 => ?_) (fun hb54 => ?_)
      · replace H := at_itet hb54 H
        refine c_seq (fun Q57 n55 o56 => ?_)
        refine c_region ?_
        obtain ⟨x58, hx59, H'⟩ := at_ldc H
        replace H := H'; clear H'
        refine stp (v := Sl.v x58) rfl rfl (r_load (v1 := .pointer (some c2)) rfl rfl (ld1 Try.underlying24 rfl (hx59 _ (Below.refl _ _)))) ?_
        refine stp (v := .int .i64 a0) rfl rfl (r_move rfl rfl) ?_
        refine stp (v := .int .i64 a1) rfl rfl (r_move rfl rfl) ?_
        obtain ⟨p60, p61, he, h0, h1, hpa, H'⟩ := at_idx' H
        replace H := H'; clear H'
        refine stp (v := .pointer (some p61)) rfl rfl (r_indexAddr (v1 := Sl.v x58) (v2 := .int .i64 a0) rfl rfl rfl (ix' Try.underlying24 sz3 he h0 h1 hpa)) ?_
        clear he h0 h1 hpa
        obtain ⟨hc62, hf63, B', H'⟩ := at_stc B H
        replace B := B'; clear B'
        replace H := H'; clear H'
        refine stp0 rfl rfl (r_store (v1 := .pointer (some p61)) (v2 := .int .i64 a1) rfl rfl rfl (st1 rfl sz3 hc62 hf63)) ?_
        refine fin ?_
        refine n55 _ _ ?_
        refine c_seq (fun Q66 n64 o65 => ?_)
        refine c_region ?_
        obtain ⟨x67, hx68, H'⟩ := at_ldc H
        replace H := H'; clear H'
        refine stp (v := Sl.v x67) rfl rfl (r_load (v1 := .pointer (some c3)) rfl rfl (ld1 Try.underlying24 rfl (hx68 _ (Below.refl _ _)))) ?_
        refine stp (v := .int .i64 a0) rfl rfl (r_move rfl rfl) ?_
        obtain ⟨w69, g70, hw, hg, B, H⟩ := at_new' B H
        refine stp (v := Sl.v (⟨some ⟨g70, 0, none⟩, 1, 1⟩ : Sl)) (w' := w69) rfl rfl (r_buildSlice (qs := [(0, .int .i64 a0)]) rfl rfl (bs_run (site9 a0 _) hw hg)) ?_
        clear hw hg
        obtain ⟨y71, w2, hr, B, H⟩ := at_run B H
        refine stp (v := Sl.v y71) rfl rfl (r_builtin (vs := [Sl.v x67, Sl.v (⟨some ⟨g70, 0, none⟩, 1, 1⟩ : Sl)]) rfl rfl (fun _ => bi_append hr)) ?_
        clear hr
        obtain ⟨hc72, hf73, B', H'⟩ := at_stc B H
        replace B := B'; clear B'
        replace H := H'; clear H'
        refine stp0 rfl rfl (r_store (v1 := .pointer (some c3)) (v2 := Sl.v y71) rfl rfl rfl (st1 rfl sz24 hc72 hf73)) ?_
        refine fin ?_
        refine n64 _ _ ?_
        refine c_seq (fun Q76 n74 o75 => ?_)
        refine c_quiet rfl (by kernel_rfl) ?_
        obtain ⟨x77_0, hx78, H'⟩ := at_ldc H
        replace H := H'; clear H'
        obtain ⟨x77_1, hx79, H'⟩ := at_ldc H
        replace H := H'; clear H'
        obtain ⟨x77_2, hx80, H'⟩ := at_ldc H
        replace H := H'; clear H'
        refine qstp (v := .agg #[Sl.v x77_0, Sl.v x77_1, .int .i64 x77_2]) rfl rfl (fun w_ hb_ => (r_load (v1 := .pointer (some c0)) rfl rfl (ldn (cs := [Sl.v x77_0, Sl.v x77_1, .int .i64 x77_2]) Try.underlying26 rfl sz26 (cells_start (cells_cons (m := 0) (hx78 _ hb_) (cells_cons (m := 1) (hx79 _ hb_) (cells_cons (m := 2) (hx80 _ hb_) cells_nil))))))) ?_
        refine qstp (v := .pointer (some (c0.add 0))) rfl rfl (fun w_ hb_ => (r_fieldAddr (v1 := .pointer (some c0)) rfl rfl (fld26_0 _ _))) ?_
        obtain ⟨x81, hx82, H'⟩ := at_ldc H
        replace H := H'; clear H'
        refine qstp (v := Sl.v x81) rfl rfl (fun w_ hb_ => (r_load (v1 := .pointer (some (c0.add 0))) rfl rfl (ld1 Try.underlying23 rfl (hx82 _ hb_)))) ?_
        refine qstp (v := .int .i64 a0) rfl rfl (fun w_ hb_ => (r_move rfl rfl)) ?_
        obtain ⟨p83, p84, he, h0, h1, hpa, H'⟩ := at_idx' H
        replace H := H'; clear H'
        refine qstp (v := .pointer (some p84)) rfl rfl (fun w_ hb_ => (r_indexAddr (v1 := Sl.v x81) (v2 := .int .i64 a0) rfl rfl rfl (ix' Try.underlying23 sz70 he h0 h1 hpa))) ?_
        clear he h0 h1 hpa
        obtain ⟨x85_0, hx86, H'⟩ := at_ldc H
        replace H := H'; clear H'
        obtain ⟨x85_1, hx87, H'⟩ := at_ldc H
        replace H := H'; clear H'
        obtain ⟨x85_2, hx88, H'⟩ := at_ldc H
        replace H := H'; clear H'
        refine qstp (v := .agg #[.int .i64 x85_0, .string x85_1, Sl.v x85_2]) rfl rfl (fun w_ hb_ => (r_load (v1 := .pointer (some p84)) rfl rfl (ldn (cs := [.int .i64 x85_0, .string x85_1, Sl.v x85_2]) Try.underlying70 rfl sz70 (cells_start (cells_cons (m := 0) (hx86 _ hb_) (cells_cons (m := 1) (hx87 _ hb_) (cells_cons (m := 2) (hx88 _ hb_) cells_nil))))))) ?_
        refine qstp (v := .int .i64 a1) rfl rfl (fun w_ hb_ => (r_move rfl rfl)) ?_
        obtain ⟨y89, hC, H'⟩ := at_callq H
        replace H := H'; clear H'
        refine qstpc (v := .bool y89) rfl rfl (fun w_ hb_ => r_call (vs := [.agg #[Sl.v x77_0, Sl.v x77_1, .int .i64 x77_2], .agg #[.int .i64 x85_0, .string x85_1, Sl.v x85_2], .int .i64 a1]) rfl rfl (ca34 _ _)) (fun w_ hb_ => hC w_ hb_) ?_
        clear hC
        refine qstp (v := .bool y89) rfl rfl (fun w_ hb_ => (r_assign rfl rfl)) ?_
        refine qfin (fun w hb => ?_)
        replace B := B.quiet (Qt.of_below hb)
        replace H := H.step (Nz.of_below hb)
        refine n74 _ _ ?_
        refine c_ret (o43 _ _ _ nofun ((done (vs := [.bool y89]) (.tmp rfl .nil) rfl ⟨_, rfl, H.now⟩)))
      · replace H := at_itef hb54 H
        refine c_skip ?_
        refine n42 _ _ ?_
        refine c_seq (fun Q92 n90 o91 => ?_)
        refine c_region ?_
        obtain ⟨x93, hx94, H'⟩ := at_ldc H
        replace H := H'; clear H'
        refine stp (v := Sl.v x93) rfl rfl (r_load (v1 := .pointer (some c2)) rfl rfl (ld1 Try.underlying24 rfl (hx94 _ (Below.refl _ _)))) ?_
        refine stp (v := .int .i64 a0) rfl rfl (r_move rfl rfl) ?_
        obtain ⟨p95, p96, he, h0, h1, hpa, H'⟩ := at_idx' H
        replace H := H'; clear H'
        refine stp (v := .pointer (some p96)) rfl rfl (r_indexAddr (v1 := Sl.v x93) (v2 := .int .i64 a0) rfl rfl rfl (ix' Try.underlying24 sz3 he h0 h1 hpa)) ?_
        clear he h0 h1 hpa
        obtain ⟨x97, hx98, H'⟩ := at_ldc H
        replace H := H'; clear H'
        refine stp (v := .int .i64 x97) rfl rfl (r_load (v1 := .pointer (some p96)) rfl rfl (ld1 Try.underlying3 rfl (hx98 _ (Below.refl _ _)))) ?_
        refine stp (v := .int .i64 a1) rfl rfl (r_move rfl rfl) ?_
        refine stp (v := .bool (x97 == a1)) rfl rfl (r_eql (a := x97) (b := a1) rfl rfl rfl) ?_
        refine stp (v := .bool (x97 == a1)) rfl rfl (r_assign rfl rfl) ?_
        refine fin ?_
        refine n90 _ _ ?_
        refine c_ret ((done (vs := [.bool (x97 == a1)]) (.tmp rfl .nil) rfl ⟨_, rfl, H.now⟩))
def f33_impl_Cow_isNumber.T (R : Value → World → Prop) (a0_0 : Sl) (a0_1 : Sl) (a0_2 : Int) (a1 : Int) : Tm :=
  T.call Try.prog 22 [.int .i64 a1, .int .i64 (-1), .int .i64 (IntKind.i64.wrap ((a0_0.n : Int) - 1))] Value.bool fun (y9 : Bool) => T.ret R (.bool y9)
set_option maxHeartbeats 4000000 in
set_option maxRecDepth 100000 in
theorem f33_impl_Cow_isNumber.ok (R : Value → World → Prop) (a0_0 : Sl) (a0_1 : Sl) (a0_2 : Int) (a1 : Int) (w : World) (h : Aft w (fun _ => False) (f33_impl_Cow_isNumber.T R a0_0 a0_1 a0_2 a1)) :
    Calls Try.prog 33 (List.toArray [.agg #[Sl.v a0_0, Sl.v a0_1, .int .i64 a0_2], .int .i64 a1]) w fun e w' => ∃ v, e = .returned v ∧ R v w' := by
  refine enter 11 Try.func33 rfl rfl rfl ?_
  have B := Bx.nil w
  have H := h
  clear h
  refine c_seq (fun Q3 n1 o2 => ?_)
  refine c_region ?_
  obtain ⟨w4, N, g5, hw, hg, B, H⟩ := B.new H 26 #[Sl.v a0_0, Sl.v a0_1, .int .i64 a0_2]
  refine stp (v := .pointer (some ⟨g5, 0, none⟩)) (w' := w4) rfl rfl (r_box (v1 := .agg #[Sl.v a0_0, Sl.v a0_1, .int .i64 a0_2]) rfl rfl (box_run rfl hw hg)) ?_
  clear hw hg
  refine stp (v := .bool false) rfl rfl (r_assign rfl rfl) ?_
  refine fin ?_
  refine n1 _ _ ?_
  refine c_seq (fun Q8 n6 o7 => ?_)
  refine c_region ?_
  refine stp (v := .int .i64 a1) rfl rfl (r_move rfl rfl) ?_
  refine stp (v := .pointer (some ⟨g5, 0, none⟩)) rfl rfl (r_fieldAddr (v1 := .pointer (some ⟨g5, 0, none⟩)) rfl rfl (fld26_0 _ _)) ?_
  refine stp (v := Sl.v a0_0) rfl rfl (r_load (v1 := .pointer (some ⟨g5, 0, none⟩)) rfl rfl (ld1 Try.underlying23 rfl (bx1 (B.get 0 rfl) rfl rfl))) ?_
  refine stp (v := .int .i64 (a0_0.n : Int)) rfl rfl (r_builtin (vs := [Sl.v a0_0]) rfl rfl (fun _ => lenl Try.underlying23)) ?_
  refine stp (v := .int .i64 (IntKind.i64.wrap ((a0_0.n : Int) - 1))) rfl rfl (r_sub (a := (a0_0.n : Int)) (b := 1) rfl rfl rfl) ?_
  refine stpc rfl rfl (r_call (vs := [.int .i64 a1, .int .i64 (-1), .int .i64 (IntKind.i64.wrap ((a0_0.n : Int) - 1))]) rfl rfl (ca22 _ _)) ?_
  refine at_call B H (fun y9 w B H => ?_)
  refine stp (v := .bool y9) rfl rfl (r_assign rfl rfl) ?_
  refine fin ?_
  refine n6 _ _ ?_
  refine c_ret ((done (vs := [.bool y9]) (.tmp rfl .nil) rfl ⟨_, rfl, H.now⟩))
def f34_impl_Cow_isGoodCell.J1 (R : Value → World → Prop) (j1_6 : Bool) : Tm :=
  T.ret R (.bool j1_6)
def f34_impl_Cow_isGoodCell.J2 (R : Value → World → Prop) (j2_6 : Bool) : Tm :=
  T.ret R (.bool j2_6)
def f34_impl_Cow_isGoodCell.T (R : Value → World → Prop) (a0_0 : Sl) (a0_1 : Sl) (a0_2 : Int) (a1_0 : Int) (a1_1 : ByteArray) (a1_2 : Sl) (a2 : Int) : Tm :=
  T.new (.cells #[Sl.v a0_0, Sl.v a0_1, .int .i64 a0_2] 26) fun (g5 : Nat) => T.ite (a2 == 1) (T.call Try.prog 22 [.int .i64 (a1_1.size : Int), .int .i64 1, .int .i64 8] Value.bool fun (y18 : Bool) => T.ite y18 (f34_impl_Cow_isGoodCell.J1 R  ((a1_2.n : Int) == 0)) (f34_impl_Cow_isGoodCell.J1 R  false)) (T.ite (a1_1.toList == (⟨#[]⟩ : ByteArray).toList) (T.ite ((a1_2.n : Int) == 4) (T.call Try.prog 57 [Sl.v a1_2, .func (.func 58) #[] #[.pointer (some (⟨g5, 0, none⟩ : Addr))]] Value.bool fun (y25 : Bool) => T.ite (!y25) (T.call Try.prog 54 [Sl.v a1_2] (Value.int .i64) fun (y27 : Int) => f34_impl_Cow_isGoodCell.J2 R  (decide (0 ≤ y27))) (f34_impl_Cow_isGoodCell.J2 R  false)) (f34_impl_Cow_isGoodCell.J2 R  false)) (f34_impl_Cow_isGoodCell.J2 R  false))
set_option maxHeartbeats 4000000 in
set_option maxRecDepth 100000 in
theorem f34_impl_Cow_isGoodCell.ok (R : Value → World → Prop) (a0_0 : Sl) (a0_1 : Sl) (a0_2 : Int) (a1_0 : Int) (a1_1 : ByteArray) (a1_2 : Sl) (a2 : Int) (w : World) (h : Aft w (fun _ => False) (f34_impl_Cow_isGoodCell.T R a0_0 a0_1 a0_2 a1_0 a1_1 a1_2 a2)) :
    Calls Try.prog 34 (List.toArray [.agg #[Sl.v a0_0, Sl.v a0_1, .int .i64 a0_2], .agg #[.int .i64 a1_0, .string a1_1, Sl.v a1_2], .int .i64 a2]) w fun e w' => ∃ v, e = .returned v ∧ R v w' := by
  refine enter 41 Try.func34 rfl rfl rfl ?_
  have B := Bx.nil w
  have H := h
  clear h
  refine c_seq (fun Q3 n1 o2 => ?_)
  refine c_region ?_
  obtain ⟨w4, g5, hw, hg, B, H⟩ := at_new' B H
  refine stp (v := .pointer (some ⟨g5, 0, none⟩)) (w' := w4) rfl rfl (r_box (v1 := .agg #[Sl.v a0_0, Sl.v a0_1, .int .i64 a0_2]) rfl rfl (box_run rfl hw hg)) ?_
  clear hw hg
  obtain ⟨w6, N, g7, hw, hg, B, H⟩ := B.new H 70 #[.int .i64 a1_0, .string a1_1, Sl.v a1_2]
  refine stp (v := .pointer (some ⟨g7, 0, none⟩)) (w' := w6) rfl rfl (r_box (v1 := .agg #[.int .i64 a1_0, .string a1_1, Sl.v a1_2]) rfl rfl (box_run rfl hw hg)) ?_
  clear hw hg
  refine stp (v := .bool false) rfl rfl (r_assign rfl rfl) ?_
  refine fin ?_
  refine n1 _ _ ?_
  refine c_seq (fun Q10 n8 o9 => ?_)
  refine c_seq (fun Q13 n11 o12 => ?_)
  refine c_region ?_
  refine stp (v := .int .i64 a2) rfl rfl (r_move rfl rfl) ?_
  refine stp (v := .bool (a2 == 1)) rfl rfl (r_eql (a := a2) (b := 1) rfl rfl rfl) ?_
  refine fin ?_
  refine n11 _ _ ?_
  refine c_cond (b := a2 == 1) rfl (fun hb14 => ?_) (fun hb14 => ?_)
  · replace H := at_itet hb14 H
    refine c_seqj (fun a w => ∃ (j1_6 : Bool) (g : Nat → Value) (N : NP), a = A 41 (updl g [(6, .bool j1_6)]) ∧ Bx w N [⟨g7, 70, #[.int .i64 a1_0, .string a1_1, Sl.v a1_2]⟩] ∧ Aft w N (f34_impl_Cow_isGoodCell.J1 R  j1_6)) (fun Q17 n15 o16 => ?_) ?_
    ·
      refine c_region ?_
      refine stp (v := .pointer (some ⟨g7, 1, none⟩)) rfl rfl (r_fieldAddr (v1 := .pointer (some ⟨g7, 0, none⟩)) rfl rfl (fld70_1 _ _)) ?_
      refine stp (v := .string a1_1) rfl rfl (r_load (v1 := .pointer (some ⟨g7, 1, none⟩)) rfl rfl (ld1 Try.underlying9 rfl (bx1 (B.get 0 rfl) rfl rfl))) ?_
      refine stp (v := .int .i64 (a1_1.size : Int)) rfl rfl (r_builtin (vs := [.string a1_1]) rfl rfl (fun _ => lens Try.underlying9)) ?_
      refine stpc rfl rfl (r_call (vs := [.int .i64 (a1_1.size : Int), .int .i64 1, .int .i64 8]) rfl rfl (ca22 _ _)) ?_
      refine at_call B H (fun y18 w B H => ?_)
      refine stp (v := .bool y18) rfl rfl (r_move rfl rfl) ?_
      rcases Bool.eq_false_or_eq_true (y18) with hb19 | hb19
      · replace H := at_itet hb19 H
        refine stp (v := .pointer (some ⟨g7, 2, none⟩)) (wn rfl rfl rfl rfl (congrArg Value.bool hb19)) rfl (r_fieldAddr (v1 := .pointer (some ⟨g7, 0, none⟩)) rfl rfl (fld70_2 _ _)) ?_
        refine stp (v := Sl.v a1_2) (wn rfl rfl rfl rfl (congrArg Value.bool hb19)) rfl (r_load (v1 := .pointer (some ⟨g7, 2, none⟩)) rfl rfl (ld1 Try.underlying24 rfl (bx1 (B.get 0 rfl) rfl rfl))) ?_
        refine stp (v := .int .i64 (a1_2.n : Int)) (wn rfl rfl rfl rfl (congrArg Value.bool hb19)) rfl (r_builtin (vs := [Sl.v a1_2]) rfl rfl (fun _ => lenl Try.underlying24)) ?_
        refine stp (v := .bool ((a1_2.n : Int) == 0)) (wn rfl rfl rfl rfl (congrArg Value.bool hb19)) rfl (r_eql (a := (a1_2.n : Int)) (b := 0) rfl rfl rfl) ?_
        refine stp (v := .bool ((a1_2.n : Int) == 0)) rfl rfl (r_pickt rfl (congrArg Value.bool hb19) rfl) ?_
        refine stp (v := .bool ((a1_2.n : Int) == 0)) rfl rfl (r_assign rfl rfl) ?_
        refine fin ?_
        exact n15 _ _ ⟨(a1_2.n : Int) == 0, _, _, fr_self rfl, B, H⟩
      · replace H := at_itef hb19 H
        refine skp (un rfl rfl rfl rfl (congrArg Value.bool hb19) nofun) rfl ?_
        refine skp (un rfl rfl rfl rfl (congrArg Value.bool hb19) nofun) rfl ?_
        refine skp (un rfl rfl rfl rfl (congrArg Value.bool hb19) nofun) rfl ?_
        refine skp (un rfl rfl rfl rfl (congrArg Value.bool hb19) nofun) rfl ?_
        refine stp (v := .bool false) rfl rfl (r_pickf rfl (congrArg Value.bool hb19) rfl) ?_
        refine stp (v := .bool false) rfl rfl (r_assign rfl rfl) ?_
        refine fin ?_
        exact n15 _ _ ⟨false, _, _, fr_self rfl, B, H⟩
    ·
      rintro _ w ⟨j1_6, g, N, rfl, B, H⟩
      refine c_ret (o9 _ _ _ nofun ((done (vs := [.bool j1_6]) (.tmp rfl .nil) rfl ⟨_, rfl, H.now⟩)))
  · replace H := at_itef hb14 H
    refine c_skip ?_
    refine n8 _ _ ?_
    refine c_seqj (fun a w => ∃ (j2_6 : Bool) (g : Nat → Value) (N : NP), a = A 41 (updl g [(6, .bool j2_6)]) ∧ Bx w N [⟨g7, 70, #[.int .i64 a1_0, .string a1_1, Sl.v a1_2]⟩] ∧ Aft w N (f34_impl_Cow_isGoodCell.J2 R  j2_6)) (fun Q22 n20 o21 => ?_) ?_
    ·
      refine c_region ?_
      refine stp (v := .pointer (some ⟨g7, 1, none⟩)) rfl rfl (r_fieldAddr (v1 := .pointer (some ⟨g7, 0, none⟩)) rfl rfl (fld70_1 _ _)) ?_
      refine stp (v := .string a1_1) rfl rfl (r_load (v1 := .pointer (some ⟨g7, 1, none⟩)) rfl rfl (ld1 Try.underlying9 rfl (bx1 (B.get 0 rfl) rfl rfl))) ?_
      refine stp (v := .bool (a1_1.toList == (⟨#[]⟩ : ByteArray).toList)) rfl rfl (r_seql (s := a1_1) (t := (⟨#[]⟩ : ByteArray)) rfl rfl rfl) ?_
      refine stp (v := .bool (a1_1.toList == (⟨#[]⟩ : ByteArray).toList)) rfl rfl (r_move rfl rfl) ?_
      rcases Bool.eq_false_or_eq_true (a1_1.toList == (⟨#[]⟩ : ByteArray).toList) with hb23 | hb23
      · replace H := at_itet hb23 H
        refine stp (v := .pointer (some ⟨g7, 2, none⟩)) (wn rfl rfl rfl rfl (congrArg Value.bool hb23)) rfl (r_fieldAddr (v1 := .pointer (some ⟨g7, 0, none⟩)) rfl rfl (fld70_2 _ _)) ?_
        refine stp (v := Sl.v a1_2) (wn rfl rfl rfl rfl (congrArg Value.bool hb23)) rfl (r_load (v1 := .pointer (some ⟨g7, 2, none⟩)) rfl rfl (ld1 Try.underlying24 rfl (bx1 (B.get 0 rfl) rfl rfl))) ?_
        refine stp (v := .int .i64 (a1_2.n : Int)) (wn rfl rfl rfl rfl (congrArg Value.bool hb23)) rfl (r_builtin (vs := [Sl.v a1_2]) rfl rfl (fun _ => lenl Try.underlying24)) ?_
        refine stp (v := .bool ((a1_2.n : Int) == 4)) (wn rfl rfl rfl rfl (congrArg Value.bool hb23)) rfl (r_eql (a := (a1_2.n : Int)) (b := 4) rfl rfl rfl) ?_
        refine stp (v := .bool ((a1_2.n : Int) == 4)) rfl rfl (r_pickt rfl (congrArg Value.bool hb23) rfl) ?_
        refine stp (v := .bool ((a1_2.n : Int) == 4)) rfl rfl (r_move rfl rfl) ?_
        rcases Bool.eq_false_or_eq_true ((a1_2.n : Int) == 4) with hb24 | hb24
        · replace H := at_itet hb24 H
          refine stp (v := .pointer (some ⟨g7, 2, none⟩)) (wn rfl rfl rfl rfl (congrArg Value.bool hb24)) rfl (r_fieldAddr (v1 := .pointer (some ⟨g7, 0, none⟩)) rfl rfl (fld70_2 _ _)) ?_
          refine stp (v := Sl.v a1_2) (wn rfl rfl rfl rfl (congrArg Value.bool hb24)) rfl (r_load (v1 := .pointer (some ⟨g7, 2, none⟩)) rfl rfl (ld1 Try.underlying24 rfl (bx1 (B.get 0 rfl) rfl rfl))) ?_
          refine stp (v := .func (.func 58) #[] #[.pointer (some (⟨g5, 0, none⟩ : Addr))]) (wn rfl rfl rfl rfl (congrArg Value.bool hb24)) rfl (r_makeFunc rfl rfl rfl) ?_
          refine stpc (wn rfl rfl rfl rfl (congrArg Value.bool hb24)) rfl (r_call (vs := [Sl.v a1_2, .func (.func 58) #[] #[.pointer (some (⟨g5, 0, none⟩ : Addr))]]) rfl rfl (ca57 _ _)) ?_
          refine at_call B H (fun y25 w B H => ?_)
          refine stp (v := .bool (!y25)) (wn rfl rfl rfl rfl (congrArg Value.bool hb24)) rfl (r_not (b := y25) rfl rfl) ?_
          refine stp (v := .bool (!y25)) rfl rfl (r_pickt rfl (congrArg Value.bool hb24) rfl) ?_
          refine stp (v := .bool (!y25)) rfl rfl (r_move rfl rfl) ?_
          rcases Bool.eq_false_or_eq_true (!y25) with hb26 | hb26
          · replace H := at_itet hb26 H
            refine stp (v := .pointer (some ⟨g7, 2, none⟩)) (wn rfl rfl rfl rfl (congrArg Value.bool hb26)) rfl (r_fieldAddr (v1 := .pointer (some ⟨g7, 0, none⟩)) rfl rfl (fld70_2 _ _)) ?_
            refine stp (v := Sl.v a1_2) (wn rfl rfl rfl rfl (congrArg Value.bool hb26)) rfl (r_load (v1 := .pointer (some ⟨g7, 2, none⟩)) rfl rfl (ld1 Try.underlying24 rfl (bx1 (B.get 0 rfl) rfl rfl))) ?_
            refine stpc (wn rfl rfl rfl rfl (congrArg Value.bool hb26)) rfl (r_call (vs := [Sl.v a1_2]) rfl rfl (ca54 _ _)) ?_
            refine at_call B H (fun y27 w B H => ?_)
            refine stp (v := .bool (decide (0 ≤ y27))) (wn rfl rfl rfl rfl (congrArg Value.bool hb26)) rfl (r_geq (a := y27) (b := 0) rfl rfl rfl) ?_
            refine stp (v := .bool (decide (0 ≤ y27))) rfl rfl (r_pickt rfl (congrArg Value.bool hb26) rfl) ?_
            refine stp (v := .bool (decide (0 ≤ y27))) rfl rfl (r_assign rfl rfl) ?_
            refine fin ?_
            exact n20 _ _ ⟨decide (0 ≤ y27), _, _, fr_self rfl, B, H⟩
          · replace H := at_itef hb26 H
            refine skp (un rfl rfl rfl rfl (congrArg Value.bool hb26) nofun) rfl ?_
            refine skp (un rfl rfl rfl rfl (congrArg Value.bool hb26) nofun) rfl ?_
            refine skp (un rfl rfl rfl rfl (congrArg Value.bool hb26) nofun) rfl ?_
            refine skp (un rfl rfl rfl rfl (congrArg Value.bool hb26) nofun) rfl ?_
            refine stp (v := .bool false) rfl rfl (r_pickf rfl (congrArg Value.bool hb26) rfl) ?_
            refine stp (v := .bool false) rfl rfl (r_assign rfl rfl) ?_
            refine fin ?_
            exact n20 _ _ ⟨false, _, _, fr_self rfl, B, H⟩
        · replace H := at_itef hb24 H
          refine skp (un rfl rfl rfl rfl (congrArg Value.bool hb24) nofun) rfl ?_
          refine skp (un rfl rfl rfl rfl (congrArg Value.bool hb24) nofun) rfl ?_
          refine skp (un rfl rfl rfl rfl (congrArg Value.bool hb24) nofun) rfl ?_
          refine skp (un rfl rfl rfl rfl (congrArg Value.bool hb24) nofun) rfl ?_
          refine skp (un rfl rfl rfl rfl (congrArg Value.bool hb24) nofun) rfl ?_
          refine stp (v := .bool false) rfl rfl (r_pickf rfl (congrArg Value.bool hb24) rfl) ?_
          refine stp (v := .bool false) rfl rfl (r_move rfl rfl) ?_
          refine skp (un rfl rfl rfl rfl rfl nofun) rfl ?_
          refine skp (un rfl rfl rfl rfl rfl nofun) rfl ?_
          refine skp (un rfl rfl rfl rfl rfl nofun) rfl ?_
          refine skp (un rfl rfl rfl rfl rfl nofun) rfl ?_
          refine stp (v := .bool false) rfl rfl (r_pickf rfl rfl rfl) ?_
          refine stp (v := .bool false) rfl rfl (r_assign rfl rfl) ?_
          refine fin ?_
          exact n20 _ _ ⟨false, _, _, fr_self rfl, B, H⟩
      · replace H := at_itef hb23 H
        refine skp (un rfl rfl rfl rfl (congrArg Value.bool hb23) nofun) rfl ?_
        refine skp (un rfl rfl rfl rfl (congrArg Value.bool hb23) nofun) rfl ?_
        refine skp (un rfl rfl rfl rfl (congrArg Value.bool hb23) nofun) rfl ?_
        refine skp (un rfl rfl rfl rfl (congrArg Value.bool hb23) nofun) rfl ?_
        refine stp (v := .bool false) rfl rfl (r_pickf rfl (congrArg Value.bool hb23) rfl) ?_
        refine stp (v := .bool false) rfl rfl (r_move rfl rfl) ?_
        refine skp (un rfl rfl rfl rfl rfl nofun) rfl ?_
        refine skp (un rfl rfl rfl rfl rfl nofun) rfl ?_
        refine skp (un rfl rfl rfl rfl rfl nofun) rfl ?_
        refine skp (un rfl rfl rfl rfl rfl nofun) rfl ?_
        refine skp (un rfl rfl rfl rfl rfl nofun) rfl ?_
        refine stp (v := .bool false) rfl rfl (r_pickf rfl rfl rfl) ?_
        refine stp (v := .bool false) rfl rfl (r_move rfl rfl) ?_
        refine skp (un rfl rfl rfl rfl rfl nofun) rfl ?_
        refine skp (un rfl rfl rfl rfl rfl nofun) rfl ?_
        refine skp (un rfl rfl rfl rfl rfl nofun) rfl ?_
        refine skp (un rfl rfl rfl rfl rfl nofun) rfl ?_
        refine stp (v := .bool false) rfl rfl (r_pickf rfl rfl rfl) ?_
        refine stp (v := .bool false) rfl rfl (r_assign rfl rfl) ?_
        refine fin ?_
        exact n20 _ _ ⟨false, _, _, fr_self rfl, B, H⟩
    ·
      rintro _ w ⟨j2_6, g, N, rfl, B, H⟩
      refine c_ret ((done (vs := [.bool j2_6]) (.tmp rfl .nil) rfl ⟨_, rfl, H.now⟩))
def f35_spec_l14Deep.J1 (R : Value → World → Prop) (j1_8 : Bool) : Tm :=
  T.ret R (.bool j1_8)
def f35_spec_l14Deep.J3 (R : Value → World → Prop) (a0_0 : Sl) (a0_1 : Sl) (a0_2 : Int) (a2 : Int) (a3 : Sl) (next91 : (Bool) → (Int) → Tm) (s2_53 : Int) (x111 : Int) (j3_10 : Bool) : Tm :=
  T.call Try.prog 35 [.agg #[Sl.v a0_0, Sl.v a0_1, .int .i64 a0_2], .int .i64 x111, .int .i64 (IntKind.i64.wrap (a2 - 1)), Sl.v a3] Value.bool fun (y120 : Bool) => T.ite (!y120) (T.ret R (.bool false)) (next91 j3_10 (IntKind.i64.wrap (s2_53 + 1)))
def f35_spec_l14Deep.J4 (R : Value → World → Prop) (j4_8 : Bool) : Tm :=
  T.ret R (.bool j4_8)
def f35_spec_l14Deep.L2 (R : Value → World → Prop) (a0_0 : Sl) (a0_1 : Sl) (a0_2 : Int) (a2 : Int) (a3 : Sl) (x57_1 : ByteArray) (x57_2 : Sl) (s2_10 : Bool) (s2_53 : Int) (next91 : (Bool) → (Int) → Tm) : Tm :=
  T.ite (decide (s2_53 < (x57_2.n : Int))) (T.idx x57_2 s2_53 1 fun (p110 : Addr) => T.ldc p110 (Value.int .i64) fun (x111 : Int) => T.ite s2_10 (f35_spec_l14Deep.J3 R a0_0 a0_1 a0_2 a2 a3 next91 s2_53 x111 true) (f35_spec_l14Deep.J3 R a0_0 a0_1 a0_2 a2 a3 next91 s2_53 x111 (decide (0 ≤ x111)))) (T.ite s2_10 (T.ite ((x57_2.n : Int) == 4) (f35_spec_l14Deep.J4 R  (x57_1.toList == (⟨#[]⟩ : ByteArray).toList)) (f35_spec_l14Deep.J4 R  false)) (f35_spec_l14Deep.J4 R  false))
def f35_spec_l14Deep.T (R : Value → World → Prop) (a0_0 : Sl) (a0_1 : Sl) (a0_2 : Int) (a1 : Int) (a2 : Int) (a3 : Sl) : Tm :=
  T.ite (a1 == (-1)) (T.ret R (.bool true)) (T.call Try.prog 27 [.int .i64 a1, .int .i64 0, .int .i64 (IntKind.i64.wrap ((a0_0.n : Int) - 1))] Value.bool fun (y22 : Bool) => T.ite (!y22) (T.ret R (.bool false)) (T.idx a3 a1 1 fun (p31 : Addr) => T.ldc p31 (Value.int .i64) fun (x32 : Int) => T.idx a3 a1 1 fun (p35 : Addr) => T.stc p35 (.int .i64 (IntKind.i64.wrap (x32 + 1))) (T.idx a3 a1 1 fun (p45 : Addr) => T.ldc p45 (Value.int .i64) fun (x46 : Int) => T.ite (decide (1 < x46)) (T.ret R (.bool true)) (T.idx a0_0 a1 3 fun (p56 : Addr) => T.ldc (p56.add 0) (Value.int .i64) fun (x57_0 : Int) => T.ldc (p56.add 1) Value.string fun (x57_1 : ByteArray) => T.ldc (p56.add 2) Sl.v fun (x57_2 : Sl) => T.ite (a2 == 1) (T.ite ((x57_2.n : Int) == 0) (T.call Try.prog 27 [.int .i64 (x57_1.size : Int), .int .i64 1, .int .i64 8] Value.bool fun (y74 : Bool) => f35_spec_l14Deep.J1 R  y74) (f35_spec_l14Deep.J1 R  false)) (T.loop (fun (s : Bool × Int) next => f35_spec_l14Deep.L2 R a0_0 a0_1 a0_2 a2 a3 x57_1 x57_2 s.1 s.2 (fun (z0 : Bool) (z1 : Int) => next (z0, z1))) (false, 0))))))
set_option maxHeartbeats 4000000 in
set_option maxRecDepth 100000 in
theorem f35_spec_l14Deep.ok (R : Value → World → Prop) (a0_0 : Sl) (a0_1 : Sl) (a0_2 : Int) (a1 : Int) (a2 : Int) (a3 : Sl) (w : World) (h : Aft w (fun _ => False) (f35_spec_l14Deep.T R a0_0 a0_1 a0_2 a1 a2 a3)) :
    Calls Try.prog 35 (List.toArray [.agg #[Sl.v a0_0, Sl.v a0_1, .int .i64 a0_2], .int .i64 a1, .int .i64 a2, Sl.v a3]) w fun e w' => ∃ v, e = .returned v ∧ R v w' := by
  refine enter 82 Try.func35 rfl rfl rfl ?_
  have B := Bx.nil w
  have H := h
  clear h
  refine c_seq (fun Q3 n1 o2 => ?_)
  refine c_region ?_
  obtain ⟨w4, N, g5, hw, hg, B, H⟩ := B.new H 26 #[Sl.v a0_0, Sl.v a0_1, .int .i64 a0_2]
  refine stp (v := .pointer (some ⟨g5, 0, none⟩)) (w' := w4) rfl rfl (r_box (v1 := .agg #[Sl.v a0_0, Sl.v a0_1, .int .i64 a0_2]) rfl rfl (box_run rfl hw hg)) ?_
  clear hw hg
  refine stp (v := .bool false) rfl rfl (r_assign rfl rfl) ?_
  refine fin ?_
  refine n1 _ _ ?_
  refine c_seq (fun Q8 n6 o7 => ?_)
  refine c_seq (fun Q11 n9 o10 => ?_)
  refine c_region ?_
  refine stp (v := .int .i64 a1) rfl rfl (r_move rfl rfl) ?_
  refine stp (v := .bool (a1 == (-1))) rfl rfl (r_eql (a := a1) (b := (-1)) rfl rfl rfl) ?_
  refine fin ?_
  refine n9 _ _ ?_
  refine c_cond (b := a1 == (-1)) rfl (fun hb12 => ?_) (fun hb12 => ?_)
  · replace H := at_itet hb12 H
    refine c_seq (fun Q15 n13 o14 => ?_)
    refine c_region ?_
    refine stp (v := .bool true) rfl rfl (r_assign rfl rfl) ?_
    refine fin ?_
    refine n13 _ _ ?_
    refine c_ret (o7 _ _ _ nofun ((done (vs := [.bool true]) (.tmp rfl .nil) rfl ⟨_, rfl, H.now⟩)))
  · replace H := at_itef hb12 H
    refine c_skip ?_
    refine n6 _ _ ?_
    refine c_seq (fun Q18 n16 o17 => ?_)
    refine c_seq (fun Q21 n19 o20 => ?_)
    refine c_region ?_
    refine stp (v := .int .i64 a1) rfl rfl (r_move rfl rfl) ?_
    refine stp (v := .pointer (some ⟨g5, 0, none⟩)) rfl rfl (r_fieldAddr (v1 := .pointer (some ⟨g5, 0, none⟩)) rfl rfl (fld26_0 _ _)) ?_
    refine stp (v := Sl.v a0_0) rfl rfl (r_load (v1 := .pointer (some ⟨g5, 0, none⟩)) rfl rfl (ld1 Try.underlying23 rfl (bx1 (B.get 0 rfl) rfl rfl))) ?_
    refine stp (v := .int .i64 (a0_0.n : Int)) rfl rfl (r_builtin (vs := [Sl.v a0_0]) rfl rfl (fun _ => lenl Try.underlying23)) ?_
    refine stp (v := .int .i64 (IntKind.i64.wrap ((a0_0.n : Int) - 1))) rfl rfl (r_sub (a := (a0_0.n : Int)) (b := 1) rfl rfl rfl) ?_
    refine stpc rfl rfl (r_call (vs := [.int .i64 a1, .int .i64 0, .int .i64 (IntKind.i64.wrap ((a0_0.n : Int) - 1))]) rfl rfl (ca27 _ _)) ?_
    refine at_call B H (fun y22 w B H => ?_)
    refine stp (v := .bool (!y22)) rfl rfl (r_not (b := y22) rfl rfl) ?_
    refine fin ?_
    refine n19 _ _ ?_
    refine c_cond (b := !y22) rfl (fun hb23 => ?_) (fun hb23 => ?_)
    · replace H := at_itet hb23 H
      refine c_seq (fun Q26 n24 o25 => ?_)
      refine c_region ?_
      refine stp (v := .bool false) rfl rfl (r_assign rfl rfl) ?_
      refine fin ?_
      refine n24 _ _ ?_
      refine c_ret (o17 _ _ _ nofun ((done (vs := [.bool false]) (.tmp rfl .nil) rfl ⟨_, rfl, H.now⟩)))
    · replace H := at_itef hb23 H
      refine c_skip ?_
      refine n16 _ _ ?_
      refine c_seq (fun Q29 n27 o28 => ?_)
      refine c_region ?_
      refine stp (v := Sl.v a3) rfl rfl (r_move rfl rfl) ?_
      refine stp (v := .int .i64 a1) rfl rfl (r_move rfl rfl) ?_
      obtain ⟨p30, p31, he, h0, h1, hpa, H'⟩ := at_idx' H
      replace H := H'; clear H'
      refine stp (v := .pointer (some p31)) rfl rfl (r_indexAddr (v1 := Sl.v a3) (v2 := .int .i64 a1) rfl rfl rfl (ix' Try.underlying24 sz3 he h0 h1 hpa)) ?_
      clear he h0 h1 hpa
      obtain ⟨x32, hx33, H'⟩ := at_ldc H
      replace H := H'; clear H'
      refine stp (v := .int .i64 x32) rfl rfl (r_load (v1 := .pointer (some p31)) rfl rfl (ld1 Try.underlying3 rfl (hx33 _ (Below.refl _ _)))) ?_
      refine stp (v := .int .i64 (IntKind.i64.wrap (x32 + 1))) rfl rfl (r_add (a := x32) (b := 1) rfl rfl rfl) ?_
      obtain ⟨p34, p35, he, h0, h1, hpa, H'⟩ := at_idx' H
      replace H := H'; clear H'
      refine stp (v := .pointer (some p35)) rfl rfl (r_indexAddr (v1 := Sl.v a3) (v2 := .int .i64 a1) rfl rfl rfl (ix' Try.underlying24 sz3 he h0 h1 hpa)) ?_
      clear he h0 h1 hpa
      obtain ⟨hc36, hf37, B', H'⟩ := at_stc B H
      replace B := B'; clear B'
      replace H := H'; clear H'
      refine stp0 rfl rfl (r_store (v1 := .pointer (some p35)) (v2 := .int .i64 (IntKind.i64.wrap (x32 + 1))) rfl rfl rfl (st1 rfl sz3 hc36 hf37)) ?_
      refine fin ?_
      refine n27 _ _ ?_
      refine c_seq (fun Q40 n38 o39 => ?_)
      refine c_seq (fun Q43 n41 o42 => ?_)
      refine c_region ?_
      refine stp (v := Sl.v a3) rfl rfl (r_move rfl rfl) ?_
      refine stp (v := .int .i64 a1) rfl rfl (r_move rfl rfl) ?_
      obtain ⟨p44, p45, he, h0, h1, hpa, H'⟩ := at_idx' H
      replace H := H'; clear H'
      refine stp (v := .pointer (some p45)) rfl rfl (r_indexAddr (v1 := Sl.v a3) (v2 := .int .i64 a1) rfl rfl rfl (ix' Try.underlying24 sz3 he h0 h1 hpa)) ?_
      clear he h0 h1 hpa
      obtain ⟨x46, hx47, H'⟩ := at_ldc H
      replace H := H'; clear H'
      refine stp (v := .int .i64 x46) rfl rfl (r_load (v1 := .pointer (some p45)) rfl rfl (ld1 Try.underlying3 rfl (hx47 _ (Below.refl _ _)))) ?_
      refine stp (v := .bool (decide (1 < x46))) rfl rfl (r_gtr (a := x46) (b := 1) rfl rfl rfl) ?_
      refine fin ?_
      refine n41 _ _ ?_
      refine c_cond (b := decide (1 < x46)) rfl (fun hb48 => ?_) (fun hb48 => ?_)
      · replace H := at_itet hb48 H
        refine c_seq (fun Q51 n49 o50 => ?_)
        refine c_region ?_
        refine stp (v := .bool true) rfl rfl (r_assign rfl rfl) ?_
        refine fin ?_
        refine n49 _ _ ?_
        refine c_ret (o39 _ _ _ nofun ((done (vs := [.bool true]) (.tmp rfl .nil) rfl ⟨_, rfl, H.now⟩)))
      · replace H := at_itef hb48 H
        refine c_skip ?_
        refine n38 _ _ ?_
        refine c_seq (fun Q54 n52 o53 => ?_)
        refine c_region ?_
        refine stp (v := .pointer (some ⟨g5, 0, none⟩)) rfl rfl (r_fieldAddr (v1 := .pointer (some ⟨g5, 0, none⟩)) rfl rfl (fld26_0 _ _)) ?_
        refine stp (v := Sl.v a0_0) rfl rfl (r_load (v1 := .pointer (some ⟨g5, 0, none⟩)) rfl rfl (ld1 Try.underlying23 rfl (bx1 (B.get 0 rfl) rfl rfl))) ?_
        refine stp (v := .int .i64 a1) rfl rfl (r_move rfl rfl) ?_
        obtain ⟨p55, p56, he, h0, h1, hpa, H'⟩ := at_idx' H
        replace H := H'; clear H'
        refine stp (v := .pointer (some p56)) rfl rfl (r_indexAddr (v1 := Sl.v a0_0) (v2 := .int .i64 a1) rfl rfl rfl (ix' Try.underlying23 sz70 he h0 h1 hpa)) ?_
        clear he h0 h1 hpa
        obtain ⟨x57_0, hx58, H'⟩ := at_ldc H
        replace H := H'; clear H'
        obtain ⟨x57_1, hx59, H'⟩ := at_ldc H
        replace H := H'; clear H'
        obtain ⟨x57_2, hx60, H'⟩ := at_ldc H
        replace H := H'; clear H'
        refine stp (v := .agg #[.int .i64 x57_0, .string x57_1, Sl.v x57_2]) rfl rfl (r_load (v1 := .pointer (some p56)) rfl rfl (ldn (cs := [.int .i64 x57_0, .string x57_1, Sl.v x57_2]) Try.underlying70 rfl sz70 (cells_start (cells_cons (m := 0) (hx58 _ (Below.refl _ _)) (cells_cons (m := 1) (hx59 _ (Below.refl _ _)) (cells_cons (m := 2) (hx60 _ (Below.refl _ _)) cells_nil)))))) ?_
        obtain ⟨w61, N, g62, hw, hg, B, H⟩ := B.new H 70 #[.int .i64 0, .string (⟨#[]⟩ : ByteArray), Sl.v Sl.nil]
        refine stp (v := .pointer (some ⟨g62, 0, none⟩)) (w' := w61) rfl rfl (r_alloc rfl (alloc_run (al70 _) hw hg)) ?_
        clear hw hg
        obtain ⟨w2, hr, B, H⟩ := B.stn H (i := 0) (T := 70) (cs' := #[.int .i64 x57_0, .string x57_1, Sl.v x57_2]) (ad := ⟨g62, 0, none⟩) rfl rfl rfl rfl sz70
        refine stp0 rfl rfl (r_store (v1 := .pointer (some ⟨g62, 0, none⟩)) (v2 := .agg #[.int .i64 x57_0, .string x57_1, Sl.v x57_2]) rfl rfl rfl hr) ?_
        replace B : Bx _ _ [⟨g62, 70, #[.int .i64 x57_0, .string x57_1, Sl.v x57_2]⟩, ⟨g5, 26, #[Sl.v a0_0, Sl.v a0_1, .int .i64 a0_2]⟩] := B
        clear hr
        refine fin ?_
        refine n52 _ _ ?_
        refine c_seq (fun Q65 n63 o64 => ?_)
        refine c_seq (fun Q68 n66 o67 => ?_)
        refine c_region ?_
        refine stp (v := .int .i64 a2) rfl rfl (r_move rfl rfl) ?_
        refine stp (v := .bool (a2 == 1)) rfl rfl (r_eql (a := a2) (b := 1) rfl rfl rfl) ?_
        refine fin ?_
        refine n66 _ _ ?_
        refine c_cond (b := a2 == 1) rfl (fun hb69 => ?_) (fun hb69 => ?_)
        · replace H := at_itet hb69 H
          refine c_seqj (fun a w => ∃ (j1_8 : Bool) (g : Nat → Value) (N : NP), a = A 82 (updl g [(8, .bool j1_8)]) ∧ Bx w N [⟨g62, 70, #[.int .i64 x57_0, .string x57_1, Sl.v x57_2]⟩, ⟨g5, 26, #[Sl.v a0_0, Sl.v a0_1, .int .i64 a0_2]⟩] ∧ Aft w N (f35_spec_l14Deep.J1 R  j1_8)) (fun Q72 n70 o71 => ?_) ?_
          ·
            refine c_region ?_
            refine stp (v := .pointer (some ⟨g62, 2, none⟩)) rfl rfl (r_fieldAddr (v1 := .pointer (some ⟨g62, 0, none⟩)) rfl rfl (fld70_2 _ _)) ?_
            refine stp (v := Sl.v x57_2) rfl rfl (r_load (v1 := .pointer (some ⟨g62, 2, none⟩)) rfl rfl (ld1 Try.underlying24 rfl (bx1 (B.get 0 rfl) rfl rfl))) ?_
            refine stp (v := .int .i64 (x57_2.n : Int)) rfl rfl (r_builtin (vs := [Sl.v x57_2]) rfl rfl (fun _ => lenl Try.underlying24)) ?_
            refine stp (v := .bool ((x57_2.n : Int) == 0)) rfl rfl (r_eql (a := (x57_2.n : Int)) (b := 0) rfl rfl rfl) ?_
            refine stp (v := .bool ((x57_2.n : Int) == 0)) rfl rfl (r_move rfl rfl) ?_
            rcases Bool.eq_false_or_eq_true ((x57_2.n : Int) == 0) with hb73 | hb73
            · replace H := at_itet hb73 H
              refine stp (v := .pointer (some ⟨g62, 1, none⟩)) (wn rfl rfl rfl rfl (congrArg Value.bool hb73)) rfl (r_fieldAddr (v1 := .pointer (some ⟨g62, 0, none⟩)) rfl rfl (fld70_1 _ _)) ?_
              refine stp (v := .string x57_1) (wn rfl rfl rfl rfl (congrArg Value.bool hb73)) rfl (r_load (v1 := .pointer (some ⟨g62, 1, none⟩)) rfl rfl (ld1 Try.underlying9 rfl (bx1 (B.get 0 rfl) rfl rfl))) ?_
              refine stp (v := .int .i64 (x57_1.size : Int)) (wn rfl rfl rfl rfl (congrArg Value.bool hb73)) rfl (r_builtin (vs := [.string x57_1]) rfl rfl (fun _ => lens Try.underlying9)) ?_
              refine stpc (wn rfl rfl rfl rfl (congrArg Value.bool hb73)) rfl (r_call (vs := [.int .i64 (x57_1.size : Int), .int .i64 1, .int .i64 8]) rfl rfl (ca27 _ _)) ?_
              refine at_call B H (fun y74 w B H => ?_)
              refine stp (v := .bool y74) rfl rfl (r_pickt rfl (congrArg Value.bool hb73) rfl) ?_
              refine stp (v := .bool y74) rfl rfl (r_assign rfl rfl) ?_
              refine fin ?_
              exact n70 _ _ ⟨y74, _, _, fr_self rfl, B, H⟩
            · replace H := at_itef hb73 H
              refine skp (un rfl rfl rfl rfl (congrArg Value.bool hb73) nofun) rfl ?_
              refine skp (un rfl rfl rfl rfl (congrArg Value.bool hb73) nofun) rfl ?_
              refine skp (un rfl rfl rfl rfl (congrArg Value.bool hb73) nofun) rfl ?_
              refine skp (un rfl rfl rfl rfl (congrArg Value.bool hb73) nofun) rfl ?_
              refine stp (v := .bool false) rfl rfl (r_pickf rfl (congrArg Value.bool hb73) rfl) ?_
              refine stp (v := .bool false) rfl rfl (r_assign rfl rfl) ?_
              refine fin ?_
              exact n70 _ _ ⟨false, _, _, fr_self rfl, B, H⟩
          ·
            rintro _ w ⟨j1_8, g, N, rfl, B, H⟩
            refine c_ret (o64 _ _ _ nofun ((done (vs := [.bool j1_8]) (.tmp rfl .nil) rfl ⟨_, rfl, H.now⟩)))
        · replace H := at_itef hb69 H
          refine c_skip ?_
          refine n63 _ _ ?_
          refine c_seq (fun Q77 n75 o76 => ?_)
          refine c_region ?_
          refine stp (v := .bool false) rfl rfl (r_assign rfl rfl) ?_
          refine fin ?_
          refine n75 _ _ ?_
          refine c_seq (fun Q80 n78 o79 => ?_)
          refine c_seq (fun Q83 n81 o82 => ?_)
          refine c_region ?_
          refine stp (v := .pointer (some ⟨g62, 2, none⟩)) rfl rfl (r_fieldAddr (v1 := .pointer (some ⟨g62, 0, none⟩)) rfl rfl (fld70_2 _ _)) ?_
          refine stp (v := Sl.v x57_2) rfl rfl (r_load (v1 := .pointer (some ⟨g62, 2, none⟩)) rfl rfl (ld1 Try.underlying24 rfl (bx1 (B.get 0 rfl) rfl rfl))) ?_
          refine stp (v := .int .i64 (x57_2.n : Int)) rfl rfl (r_builtin (vs := [Sl.v x57_2]) rfl rfl (fun _ => lenl Try.underlying24)) ?_
          refine stp (v := .int .i64 0) rfl rfl (r_move rfl rfl) ?_
          refine fin ?_
          refine n81 _ _ ?_
          refine c_block (fun Q87 n84 x86 o85 => ?_)
          refine c_loop (σ := Bool × Int) (s0 := (false, 0)) (fun s => [(2, .int .i64 a2), (3, Sl.v a3), (4, .pointer (some ⟨g5, 0, none⟩)), (9, .pointer (some ⟨g62, 0, none⟩)), (10, .bool s.1), (51, Sl.v x57_2), (52, .int .i64 (x57_2.n : Int)), (53, .int .i64 s.2)]) (fun s => [⟨g62, 70, #[.int .i64 x57_0, .string x57_1, Sl.v x57_2]⟩, ⟨g5, 26, #[Sl.v a0_0, Sl.v a0_1, .int .i64 a0_2]⟩]) B H rfl ?_
          rintro Q90 next91 ⟨s2_10, s2_53⟩ g w N nx88 o89 B H
          refine c_seq (fun Q94 n92 o93 => ?_)
          refine c_region ?_
          refine stp (v := .bool (decide (s2_53 < (x57_2.n : Int)))) rfl rfl (r_lss (a := s2_53) (b := (x57_2.n : Int)) rfl rfl rfl) ?_
          refine fin ?_
          refine n92 _ _ ?_
          refine c_seq (fun Q97 n95 o96 => ?_)
          refine c_cond (b := decide (s2_53 < (x57_2.n : Int))) rfl (fun hb98 => ?_) (fun hb98 => ?_)
          · replace H := at_itet hb98 H
            refine c_skip ?_
            refine n95 _ _ ?_
            refine c_seq (fun Q101 n99 o100 => ?_)
            refine c_block (fun Q105 n102 x104 o103 => ?_)
            refine c_seq (fun Q108 n106 o107 => ?_)
            refine c_region ?_
            obtain ⟨p109, p110, he, h0, h1, hpa, H'⟩ := at_idx' H
            replace H := H'; clear H'
            refine stp (v := .pointer (some p110)) rfl rfl (r_indexAddr (v1 := Sl.v x57_2) (v2 := .int .i64 s2_53) rfl rfl rfl (ix' Try.underlying24 sz3 he h0 h1 hpa)) ?_
            clear he h0 h1 hpa
            obtain ⟨x111, hx112, H'⟩ := at_ldc H
            replace H := H'; clear H'
            refine stp (v := .int .i64 x111) rfl rfl (r_load (v1 := .pointer (some p110)) rfl rfl (ld1 Try.underlying3 rfl (hx112 _ (Below.refl _ _)))) ?_
            refine stp (v := .int .i64 x111) rfl rfl (r_assign rfl rfl) ?_
            refine fin ?_
            refine n106 _ _ ?_
            refine c_seqj (fun a w => ∃ (j3_10 : Bool) (g : Nat → Value) (N : NP), a = A 82 (updl g [(2, .int .i64 a2), (3, Sl.v a3), (4, .pointer (some ⟨g5, 0, none⟩)), (9, .pointer (some ⟨g62, 0, none⟩)), (10, .bool j3_10), (12, .int .i64 x111), (51, Sl.v x57_2), (52, .int .i64 (x57_2.n : Int)), (53, .int .i64 s2_53)]) ∧ Bx w N [⟨g62, 70, #[.int .i64 x57_0, .string x57_1, Sl.v x57_2]⟩, ⟨g5, 26, #[Sl.v a0_0, Sl.v a0_1, .int .i64 a0_2]⟩] ∧ Aft w N (f35_spec_l14Deep.J3 R a0_0 a0_1 a0_2 a2 a3 (fun (z0 : Bool) (z1 : Int) => next91 (z0, z1)) s2_53 x111 j3_10)) (fun Q115 n113 o114 => ?_) ?_
            ·
              refine c_region ?_
              refine stp (v := .bool s2_10) rfl rfl (r_move rfl rfl) ?_
              refine stp (v := .bool s2_10) rfl rfl (r_move rfl rfl) ?_
              rcases Bool.eq_false_or_eq_true (s2_10) with hb116 | hb116
              · replace H := at_itet hb116 H
                refine skp (un rfl rfl rfl rfl (congrArg Value.bool hb116) nofun) rfl ?_
                refine skp (un rfl rfl rfl rfl (congrArg Value.bool hb116) nofun) rfl ?_
                refine stp (v := .bool true) rfl rfl (r_pickt rfl (congrArg Value.bool hb116) rfl) ?_
                refine stp (v := .bool true) rfl rfl (r_assign rfl rfl) ?_
                refine fin ?_
                exact n113 _ _ ⟨true, _, _, fr_self rfl, B, H⟩
              · replace H := at_itef hb116 H
                refine stp (v := .int .i64 x111) (wn rfl rfl rfl rfl (congrArg Value.bool hb116)) rfl (r_move rfl rfl) ?_
                refine stp (v := .bool (decide (0 ≤ x111))) (wn rfl rfl rfl rfl (congrArg Value.bool hb116)) rfl (r_geq (a := x111) (b := 0) rfl rfl rfl) ?_
                refine stp (v := .bool (decide (0 ≤ x111))) rfl rfl (r_pickf rfl (congrArg Value.bool hb116) rfl) ?_
                refine stp (v := .bool (decide (0 ≤ x111))) rfl rfl (r_assign rfl rfl) ?_
                refine fin ?_
                exact n113 _ _ ⟨decide (0 ≤ x111), _, _, fr_self rfl, B, H⟩
            ·
              rintro _ w ⟨j3_10, g, N, rfl, B, H⟩
              refine c_seq (fun Q119 n117 o118 => ?_)
              refine c_region ?_
              refine stp (v := .agg #[Sl.v a0_0, Sl.v a0_1, .int .i64 a0_2]) rfl rfl (r_load (v1 := .pointer (some ⟨g5, 0, none⟩)) rfl rfl (bxn (B.get 1 rfl) Try.underlying26 rfl sz26)) ?_
              refine stp (v := .int .i64 x111) rfl rfl (r_move rfl rfl) ?_
              refine stp (v := .int .i64 a2) rfl rfl (r_move rfl rfl) ?_
              refine stp (v := .int .i64 (IntKind.i64.wrap (a2 - 1))) rfl rfl (r_sub (a := a2) (b := 1) rfl rfl rfl) ?_
              refine stp (v := Sl.v a3) rfl rfl (r_move rfl rfl) ?_
              refine stpc rfl rfl (r_call (vs := [.agg #[Sl.v a0_0, Sl.v a0_1, .int .i64 a0_2], .int .i64 x111, .int .i64 (IntKind.i64.wrap (a2 - 1)), Sl.v a3]) rfl rfl (ca35 _ _)) ?_
              refine at_call B H (fun y120 w B H => ?_)
              refine stp (v := .bool (!y120)) rfl rfl (r_not (b := y120) rfl rfl) ?_
              refine fin ?_
              refine n117 _ _ ?_
              refine c_cond (b := !y120) rfl (fun hb121 => ?_) (fun hb121 => ?_)
              · replace H := at_itet hb121 H
                refine c_seq (fun Q124 n122 o123 => ?_)
                refine c_region ?_
                refine stp (v := .bool false) rfl rfl (r_assign rfl rfl) ?_
                refine fin ?_
                refine n122 _ _ ?_
                refine c_ret (o103 _ _ _ nofun (by simp) (o100 _ _ _ nofun (o89 _ _ _ nofun (o85 _ _ _ nofun (by simp) (o79 _ _ _ nofun ((done (vs := [.bool false]) (.tmp rfl .nil) rfl ⟨_, rfl, H.now⟩)))))))
              · replace H := at_itef hb121 H
                refine c_skip ?_
                refine n102 _ _ ?_
                refine n99 _ _ ?_
                refine c_region ?_
                refine stp (v := .int .i64 (IntKind.i64.wrap (s2_53 + 1))) rfl rfl (r_add (a := s2_53) (b := 1) rfl rfl rfl) ?_
                refine stp (v := .int .i64 (IntKind.i64.wrap (s2_53 + 1))) rfl rfl (r_move rfl rfl) ?_
                refine fin ?_
                exact nx88 ⟨j3_10, IntKind.i64.wrap (s2_53 + 1)⟩ _ _ _ B H rfl
          · replace H := at_itef hb98 H
            refine c_exit (o96 _ _ _ nofun (o89 _ _ _ nofun (x86 _ _ ?_)))
            refine n78 _ _ ?_
            refine c_seqj (fun a w => ∃ (j4_8 : Bool) (g : Nat → Value) (N : NP), a = A 82 (updl g [(8, .bool j4_8)]) ∧ Bx w N [⟨g62, 70, #[.int .i64 x57_0, .string x57_1, Sl.v x57_2]⟩, ⟨g5, 26, #[Sl.v a0_0, Sl.v a0_1, .int .i64 a0_2]⟩] ∧ Aft w N (f35_spec_l14Deep.J4 R  j4_8)) (fun Q127 n125 o126 => ?_) ?_
            ·
              refine c_region ?_
              refine stp (v := .bool s2_10) rfl rfl (r_move rfl rfl) ?_
              refine stp (v := .bool s2_10) rfl rfl (r_move rfl rfl) ?_
              rcases Bool.eq_false_or_eq_true (s2_10) with hb128 | hb128
              · replace H := at_itet hb128 H
                refine stp (v := .pointer (some ⟨g62, 2, none⟩)) (wn rfl rfl rfl rfl (congrArg Value.bool hb128)) rfl (r_fieldAddr (v1 := .pointer (some ⟨g62, 0, none⟩)) rfl rfl (fld70_2 _ _)) ?_
                refine stp (v := Sl.v x57_2) (wn rfl rfl rfl rfl (congrArg Value.bool hb128)) rfl (r_load (v1 := .pointer (some ⟨g62, 2, none⟩)) rfl rfl (ld1 Try.underlying24 rfl (bx1 (B.get 0 rfl) rfl rfl))) ?_
                refine stp (v := .int .i64 (x57_2.n : Int)) (wn rfl rfl rfl rfl (congrArg Value.bool hb128)) rfl (r_builtin (vs := [Sl.v x57_2]) rfl rfl (fun _ => lenl Try.underlying24)) ?_
                refine stp (v := .bool ((x57_2.n : Int) == 4)) (wn rfl rfl rfl rfl (congrArg Value.bool hb128)) rfl (r_eql (a := (x57_2.n : Int)) (b := 4) rfl rfl rfl) ?_
                refine stp (v := .bool ((x57_2.n : Int) == 4)) rfl rfl (r_pickt rfl (congrArg Value.bool hb128) rfl) ?_
                refine stp (v := .bool ((x57_2.n : Int) == 4)) rfl rfl (r_move rfl rfl) ?_
                rcases Bool.eq_false_or_eq_true ((x57_2.n : Int) == 4) with hb129 | hb129
                · replace H := at_itet hb129 H
                  refine stp (v := .pointer (some ⟨g62, 1, none⟩)) (wn rfl rfl rfl rfl (congrArg Value.bool hb129)) rfl (r_fieldAddr (v1 := .pointer (some ⟨g62, 0, none⟩)) rfl rfl (fld70_1 _ _)) ?_
                  refine stp (v := .string x57_1) (wn rfl rfl rfl rfl (congrArg Value.bool hb129)) rfl (r_load (v1 := .pointer (some ⟨g62, 1, none⟩)) rfl rfl (ld1 Try.underlying9 rfl (bx1 (B.get 0 rfl) rfl rfl))) ?_
                  refine stp (v := .bool (x57_1.toList == (⟨#[]⟩ : ByteArray).toList)) (wn rfl rfl rfl rfl (congrArg Value.bool hb129)) rfl (r_seql (s := x57_1) (t := (⟨#[]⟩ : ByteArray)) rfl rfl rfl) ?_
                  refine stp (v := .bool (x57_1.toList == (⟨#[]⟩ : ByteArray).toList)) rfl rfl (r_pickt rfl (congrArg Value.bool hb129) rfl) ?_
                  refine stp (v := .bool (x57_1.toList == (⟨#[]⟩ : ByteArray).toList)) rfl rfl (r_assign rfl rfl) ?_
                  refine fin ?_
                  exact n125 _ _ ⟨x57_1.toList == (⟨#[]⟩ : ByteArray).toList, _, _, fr_self rfl, B, H⟩
                · replace H := at_itef hb129 H
                  refine skp (un rfl rfl rfl rfl (congrArg Value.bool hb129) nofun) rfl ?_
                  refine skp (un rfl rfl rfl rfl (congrArg Value.bool hb129) nofun) rfl ?_
                  refine skp (un rfl rfl rfl rfl (congrArg Value.bool hb129) nofun) rfl ?_
                  refine stp (v := .bool false) rfl rfl (r_pickf rfl (congrArg Value.bool hb129) rfl) ?_
                  refine stp (v := .bool false) rfl rfl (r_assign rfl rfl) ?_
                  refine fin ?_
                  exact n125 _ _ ⟨false, _, _, fr_self rfl, B, H⟩
              · replace H := at_itef hb128 H
                refine skp (un rfl rfl rfl rfl (congrArg Value.bool hb128) nofun) rfl ?_
                refine skp (un rfl rfl rfl rfl (congrArg Value.bool hb128) nofun) rfl ?_
                refine skp (un rfl rfl rfl rfl (congrArg Value.bool hb128) nofun) rfl ?_
                refine skp (un rfl rfl rfl rfl (congrArg Value.bool hb128) nofun) rfl ?_
                refine stp (v := .bool false) rfl rfl (r_pickf rfl (congrArg Value.bool hb128) rfl) ?_
                refine stp (v := .bool false) rfl rfl (r_move rfl rfl) ?_
                refine skp (un rfl rfl rfl rfl rfl nofun) rfl ?_
                refine skp (un rfl rfl rfl rfl rfl nofun) rfl ?_
                refine skp (un rfl rfl rfl rfl rfl nofun) rfl ?_
                refine stp (v := .bool false) rfl rfl (r_pickf rfl rfl rfl) ?_
                refine stp (v := .bool false) rfl rfl (r_assign rfl rfl) ?_
                refine fin ?_
                exact n125 _ _ ⟨false, _, _, fr_self rfl, B, H⟩
            ·
              rintro _ w ⟨j4_8, g, N, rfl, B, H⟩
              refine c_ret ((done (vs := [.bool j4_8]) (.tmp rfl .nil) rfl ⟨_, rfl, H.now⟩))
def f36_spec_l14Levels.L2 (R : Value → World → Prop) (a0_0 : Sl) (a0_1 : Sl) (a0_2 : Int) (a2 : Int) (a3 : Sl) (x64 : Sl) (s2_43 : Int) (next73 : (Int) → Tm) : Tm :=
  T.ite (decide (s2_43 < (x64.n : Int))) (T.idx x64 s2_43 1 fun (p92 : Addr) => T.ldc p92 (Value.int .i64) fun (x93 : Int) => T.call Try.prog 36 [.agg #[Sl.v a0_0, Sl.v a0_1, .int .i64 a0_2], .int .i64 x93, .int .i64 (IntKind.i64.wrap (a2 - 1)), Sl.v a3] Value.bool fun (y98 : Bool) => T.ite (!y98) (T.ret R (.bool false)) (next73 (IntKind.i64.wrap (s2_43 + 1)))) (T.ret R (.bool true))
def f36_spec_l14Levels.J1 (R : Value → World → Prop) (a0_0 : Sl) (a0_1 : Sl) (a0_2 : Int) (a1 : Int) (a2 : Int) (a3 : Sl) (j1_25 : Bool) : Tm :=
  T.ite j1_25 (T.ret R (.bool false)) (T.idx a3 a1 1 fun (p42 : Addr) => T.ldc p42 (Value.int .i64) fun (x43 : Int) => T.ite (x43 == a2) (T.ret R (.bool true)) (T.idx a3 a1 1 fun (p53 : Addr) => T.stc p53 (.int .i64 a2) (T.idx a0_0 a1 3 fun (p63 : Addr) => T.ldc (p63.add 2) Sl.v fun (x64 : Sl) => T.loop (fun (s : Int) next => f36_spec_l14Levels.L2 R a0_0 a0_1 a0_2 a2 a3 x64 s (fun (z0 : Int) => next z0)) 0)))
def f36_spec_l14Levels.T (R : Value → World → Prop) (a0_0 : Sl) (a0_1 : Sl) (a0_2 : Int) (a1 : Int) (a2 : Int) (a3 : Sl) : Tm :=
  T.ite (a1 == (-1)) (T.ret R (.bool true)) (T.idx a3 a1 1 fun (p23 : Addr) => T.ldc p23 (Value.int .i64) fun (x24 : Int) => T.ite (x24 != 0) (T.idx a3 a1 1 fun (p28 : Addr) => T.ldc p28 (Value.int .i64) fun (x29 : Int) => f36_spec_l14Levels.J1 R a0_0 a0_1 a0_2 a1 a2 a3 (x29 != a2)) (f36_spec_l14Levels.J1 R a0_0 a0_1 a0_2 a1 a2 a3 false))
set_option maxHeartbeats 4000000 in
set_option maxRecDepth 100000 in
theorem f36_spec_l14Levels.ok (R : Value → World → Prop) (a0_0 : Sl) (a0_1 : Sl) (a0_2 : Int) (a1 : Int) (a2 : Int) (a3 : Sl) (w : World) (h : Aft w (fun _ => False) (f36_spec_l14Levels.T R a0_0 a0_1 a0_2 a1 a2 a3)) :
    Calls Try.prog 36 (List.toArray [.agg #[Sl.v a0_0, Sl.v a0_1, .int .i64 a0_2], .int .i64 a1, .int .i64 a2, Sl.v a3]) w fun e w' => ∃ v, e = .returned v ∧ R v w' := by
  refine enter 55 Try.func36 rfl rfl rfl ?_
  have B := Bx.nil w
  have H := h
  clear h
  refine c_seq (fun Q3 n1 o2 => ?_)
  refine c_region ?_
  obtain ⟨w4, N, g5, hw, hg, B, H⟩ := B.new H 26 #[Sl.v a0_0, Sl.v a0_1, .int .i64 a0_2]
  refine stp (v := .pointer (some ⟨g5, 0, none⟩)) (w' := w4) rfl rfl (r_box (v1 := .agg #[Sl.v a0_0, Sl.v a0_1, .int .i64 a0_2]) rfl rfl (box_run rfl hw hg)) ?_
  clear hw hg
  refine stp (v := .bool false) rfl rfl (r_assign rfl rfl) ?_
  refine fin ?_
  refine n1 _ _ ?_
  refine c_seq (fun Q8 n6 o7 => ?_)
  refine c_seq (fun Q11 n9 o10 => ?_)
  refine c_region ?_
  refine stp (v := .int .i64 a1) rfl rfl (r_move rfl rfl) ?_
  refine stp (v := .bool (a1 == (-1))) rfl rfl (r_eql (a := a1) (b := (-1)) rfl rfl rfl) ?_
  refine fin ?_
  refine n9 _ _ ?_
  refine c_cond (b := a1 == (-1)) rfl (fun hb12 => ?_) (fun hb12 => ?_)
  · replace H := at_itet hb12 H
    refine c_seq (fun Q15 n13 o14 => ?_)
    refine c_region ?_
    refine stp (v := .bool true) rfl rfl (r_assign rfl rfl) ?_
    refine fin ?_
    refine n13 _ _ ?_
    refine c_ret (o7 _ _ _ nofun ((done (vs := [.bool true]) (.tmp rfl .nil) rfl ⟨_, rfl, H.now⟩)))
  · replace H := at_itef hb12 H
    refine c_skip ?_
    refine n6 _ _ ?_
    refine c_seq (fun Q18 n16 o17 => ?_)
    refine c_seqj (fun a w => ∃ (j1_25 : Bool) (g : Nat → Value) (N : NP), a = A 55 (updl g [(1, .int .i64 a1), (2, .int .i64 a2), (3, Sl.v a3), (4, .pointer (some ⟨g5, 0, none⟩)), (25, .bool j1_25)]) ∧ Bx w N [⟨g5, 26, #[Sl.v a0_0, Sl.v a0_1, .int .i64 a0_2]⟩] ∧ Aft w N (f36_spec_l14Levels.J1 R a0_0 a0_1 a0_2 a1 a2 a3 j1_25)) (fun Q21 n19 o20 => ?_) ?_
    ·
      refine c_region ?_
      refine stp (v := Sl.v a3) rfl rfl (r_move rfl rfl) ?_
      refine stp (v := .int .i64 a1) rfl rfl (r_move rfl rfl) ?_
      obtain ⟨p22, p23, he, h0, h1, hpa, H'⟩ := at_idx' H
      replace H := H'; clear H'
      refine stp (v := .pointer (some p23)) rfl rfl (r_indexAddr (v1 := Sl.v a3) (v2 := .int .i64 a1) rfl rfl rfl (ix' Try.underlying24 sz3 he h0 h1 hpa)) ?_
      clear he h0 h1 hpa
      obtain ⟨x24, hx25, H'⟩ := at_ldc H
      replace H := H'; clear H'
      refine stp (v := .int .i64 x24) rfl rfl (r_load (v1 := .pointer (some p23)) rfl rfl (ld1 Try.underlying3 rfl (hx25 _ (Below.refl _ _)))) ?_
      refine stp (v := .bool (x24 != 0)) rfl rfl (r_neq (a := x24) (b := 0) rfl rfl rfl) ?_
      refine stp (v := .bool (x24 != 0)) rfl rfl (r_move rfl rfl) ?_
      rcases Bool.eq_false_or_eq_true (x24 != 0) with hb26 | hb26
      · replace H := at_itet hb26 H
        refine stp (v := Sl.v a3) (wn rfl rfl rfl rfl (congrArg Value.bool hb26)) rfl (r_move rfl rfl) ?_
        refine stp (v := .int .i64 a1) (wn rfl rfl rfl rfl (congrArg Value.bool hb26)) rfl (r_move rfl rfl) ?_
        obtain ⟨p27, p28, he, h0, h1, hpa, H'⟩ := at_idx' H
        replace H := H'; clear H'
        refine stp (v := .pointer (some p28)) (wn rfl rfl rfl rfl (congrArg Value.bool hb26)) rfl (r_indexAddr (v1 := Sl.v a3) (v2 := .int .i64 a1) rfl rfl rfl (ix' Try.underlying24 sz3 he h0 h1 hpa)) ?_
        clear he h0 h1 hpa
        obtain ⟨x29, hx30, H'⟩ := at_ldc H
        replace H := H'; clear H'
        refine stp (v := .int .i64 x29) (wn rfl rfl rfl rfl (congrArg Value.bool hb26)) rfl (r_load (v1 := .pointer (some p28)) rfl rfl (ld1 Try.underlying3 rfl (hx30 _ (Below.refl _ _)))) ?_
        refine stp (v := .int .i64 a2) (wn rfl rfl rfl rfl (congrArg Value.bool hb26)) rfl (r_move rfl rfl) ?_
        refine stp (v := .bool (x29 != a2)) (wn rfl rfl rfl rfl (congrArg Value.bool hb26)) rfl (r_neq (a := x29) (b := a2) rfl rfl rfl) ?_
        refine stp (v := .bool (x29 != a2)) rfl rfl (r_pickt rfl (congrArg Value.bool hb26) rfl) ?_
        refine fin ?_
        exact n19 _ _ ⟨x29 != a2, _, _, fr_self rfl, B, H⟩
      · replace H := at_itef hb26 H
        refine skp (un rfl rfl rfl rfl (congrArg Value.bool hb26) nofun) rfl ?_
        refine skp (un rfl rfl rfl rfl (congrArg Value.bool hb26) nofun) rfl ?_
        refine skp (un rfl rfl rfl rfl (congrArg Value.bool hb26) nofun) rfl ?_
        refine skp (un rfl rfl rfl rfl (congrArg Value.bool hb26) nofun) rfl ?_
        refine skp (un rfl rfl rfl rfl (congrArg Value.bool hb26) nofun) rfl ?_
        refine skp (un rfl rfl rfl rfl (congrArg Value.bool hb26) nofun) rfl ?_
        refine stp (v := .bool false) rfl rfl (r_pickf rfl (congrArg Value.bool hb26) rfl) ?_
        refine fin ?_
        exact n19 _ _ ⟨false, _, _, fr_self rfl, B, H⟩
    ·
      rintro _ w ⟨j1_25, g, N, rfl, B, H⟩
      refine c_cond (b := j1_25) rfl (fun hb31 => ?_) (fun hb31 => ?_)
      · replace H := at_itet hb31 H
        refine c_seq (fun Q34 n32 o33 => ?_)
        refine c_region ?_
        refine stp (v := .bool false) rfl rfl (r_assign rfl rfl) ?_
        refine fin ?_
        refine n32 _ _ ?_
        refine c_ret (o17 _ _ _ nofun ((done (vs := [.bool false]) (.tmp rfl .nil) rfl ⟨_, rfl, H.now⟩)))
      · replace H := at_itef hb31 H
        refine c_skip ?_
        refine n16 _ _ ?_
        refine c_seq (fun Q37 n35 o36 => ?_)
        refine c_seq (fun Q40 n38 o39 => ?_)
        refine c_region ?_
        refine stp (v := Sl.v a3) rfl rfl (r_move rfl rfl) ?_
        refine stp (v := .int .i64 a1) rfl rfl (r_move rfl rfl) ?_
        obtain ⟨p41, p42, he, h0, h1, hpa, H'⟩ := at_idx' H
        replace H := H'; clear H'
        refine stp (v := .pointer (some p42)) rfl rfl (r_indexAddr (v1 := Sl.v a3) (v2 := .int .i64 a1) rfl rfl rfl (ix' Try.underlying24 sz3 he h0 h1 hpa)) ?_
        clear he h0 h1 hpa
        obtain ⟨x43, hx44, H'⟩ := at_ldc H
        replace H := H'; clear H'
        refine stp (v := .int .i64 x43) rfl rfl (r_load (v1 := .pointer (some p42)) rfl rfl (ld1 Try.underlying3 rfl (hx44 _ (Below.refl _ _)))) ?_
        refine stp (v := .int .i64 a2) rfl rfl (r_move rfl rfl) ?_
        refine stp (v := .bool (x43 == a2)) rfl rfl (r_eql (a := x43) (b := a2) rfl rfl rfl) ?_
        refine fin ?_
        refine n38 _ _ ?_
        refine c_cond (b := x43 == a2) rfl (fun hb45 => ?_) (fun hb45 => ?_)
        · replace H := at_itet hb45 H
          refine c_seq (fun Q48 n46 o47 => ?_)
          refine c_region ?_
          refine stp (v := .bool true) rfl rfl (r_assign rfl rfl) ?_
          refine fin ?_
          refine n46 _ _ ?_
          refine c_ret (o36 _ _ _ nofun ((done (vs := [.bool true]) (.tmp rfl .nil) rfl ⟨_, rfl, H.now⟩)))
        · replace H := at_itef hb45 H
          refine c_skip ?_
          refine n35 _ _ ?_
          refine c_seq (fun Q51 n49 o50 => ?_)
          refine c_region ?_
          refine stp (v := Sl.v a3) rfl rfl (r_move rfl rfl) ?_
          refine stp (v := .int .i64 a1) rfl rfl (r_move rfl rfl) ?_
          refine stp (v := .int .i64 a2) rfl rfl (r_move rfl rfl) ?_
          obtain ⟨p52, p53, he, h0, h1, hpa, H'⟩ := at_idx' H
          replace H := H'; clear H'
          refine stp (v := .pointer (some p53)) rfl rfl (r_indexAddr (v1 := Sl.v a3) (v2 := .int .i64 a1) rfl rfl rfl (ix' Try.underlying24 sz3 he h0 h1 hpa)) ?_
          clear he h0 h1 hpa
          obtain ⟨hc54, hf55, B', H'⟩ := at_stc B H
          replace B := B'; clear B'
          replace H := H'; clear H'
          refine stp0 rfl rfl (r_store (v1 := .pointer (some p53)) (v2 := .int .i64 a2) rfl rfl rfl (st1 rfl sz3 hc54 hf55)) ?_
          refine fin ?_
          refine n49 _ _ ?_
          refine c_seq (fun Q58 n56 o57 => ?_)
          refine c_seq (fun Q61 n59 o60 => ?_)
          refine c_region ?_
          refine stp (v := .pointer (some ⟨g5, 0, none⟩)) rfl rfl (r_fieldAddr (v1 := .pointer (some ⟨g5, 0, none⟩)) rfl rfl (fld26_0 _ _)) ?_
          refine stp (v := Sl.v a0_0) rfl rfl (r_load (v1 := .pointer (some ⟨g5, 0, none⟩)) rfl rfl (ld1 Try.underlying23 rfl (bx1 (B.get 0 rfl) rfl rfl))) ?_
          refine stp (v := .int .i64 a1) rfl rfl (r_move rfl rfl) ?_
          obtain ⟨p62, p63, he, h0, h1, hpa, H'⟩ := at_idx' H
          replace H := H'; clear H'
          refine stp (v := .pointer (some p63)) rfl rfl (r_indexAddr (v1 := Sl.v a0_0) (v2 := .int .i64 a1) rfl rfl rfl (ix' Try.underlying23 sz70 he h0 h1 hpa)) ?_
          clear he h0 h1 hpa
          refine stp (v := .pointer (some (p63.add 2))) rfl rfl (r_fieldAddr (v1 := .pointer (some p63)) rfl rfl (fld70_2 _ _)) ?_
          obtain ⟨x64, hx65, H'⟩ := at_ldc H
          replace H := H'; clear H'
          refine stp (v := Sl.v x64) rfl rfl (r_load (v1 := .pointer (some (p63.add 2))) rfl rfl (ld1 Try.underlying24 rfl (hx65 _ (Below.refl _ _)))) ?_
          refine stp (v := .int .i64 (x64.n : Int)) rfl rfl (r_builtin (vs := [Sl.v x64]) rfl rfl (fun _ => lenl Try.underlying24)) ?_
          refine stp (v := .int .i64 0) rfl rfl (r_move rfl rfl) ?_
          refine fin ?_
          refine n59 _ _ ?_
          refine c_block (fun Q69 n66 x68 o67 => ?_)
          refine c_loop (σ := Int) (s0 := 0) (fun s => [(2, .int .i64 a2), (3, Sl.v a3), (4, .pointer (some ⟨g5, 0, none⟩)), (41, Sl.v x64), (42, .int .i64 (x64.n : Int)), (43, .int .i64 s)]) (fun s => [⟨g5, 26, #[Sl.v a0_0, Sl.v a0_1, .int .i64 a0_2]⟩]) B H rfl ?_
          rintro Q72 next73 s2_43 g w N nx70 o71 B H
          refine c_seq (fun Q76 n74 o75 => ?_)
          refine c_region ?_
          refine stp (v := .bool (decide (s2_43 < (x64.n : Int)))) rfl rfl (r_lss (a := s2_43) (b := (x64.n : Int)) rfl rfl rfl) ?_
          refine fin ?_
          refine n74 _ _ ?_
          refine c_seq (fun Q79 n77 o78 => ?_)
          refine c_cond (b := decide (s2_43 < (x64.n : Int))) rfl (fun hb80 => ?_) (fun hb80 => ?_)
          · replace H := at_itet hb80 H
            refine c_skip ?_
            refine n77 _ _ ?_
            refine c_seq (fun Q83 n81 o82 => ?_)
            refine c_block (fun Q87 n84 x86 o85 => ?_)
            refine c_seq (fun Q90 n88 o89 => ?_)
            refine c_region ?_
            obtain ⟨p91, p92, he, h0, h1, hpa, H'⟩ := at_idx' H
            replace H := H'; clear H'
            refine stp (v := .pointer (some p92)) rfl rfl (r_indexAddr (v1 := Sl.v x64) (v2 := .int .i64 s2_43) rfl rfl rfl (ix' Try.underlying24 sz3 he h0 h1 hpa)) ?_
            clear he h0 h1 hpa
            obtain ⟨x93, hx94, H'⟩ := at_ldc H
            replace H := H'; clear H'
            refine stp (v := .int .i64 x93) rfl rfl (r_load (v1 := .pointer (some p92)) rfl rfl (ld1 Try.underlying3 rfl (hx94 _ (Below.refl _ _)))) ?_
            refine stp (v := .int .i64 x93) rfl rfl (r_assign rfl rfl) ?_
            refine fin ?_
            refine n88 _ _ ?_
            refine c_seq (fun Q97 n95 o96 => ?_)
            refine c_region ?_
            refine stp (v := .agg #[Sl.v a0_0, Sl.v a0_1, .int .i64 a0_2]) rfl rfl (r_load (v1 := .pointer (some ⟨g5, 0, none⟩)) rfl rfl (bxn (B.get 0 rfl) Try.underlying26 rfl sz26)) ?_
            refine stp (v := .int .i64 x93) rfl rfl (r_move rfl rfl) ?_
            refine stp (v := .int .i64 a2) rfl rfl (r_move rfl rfl) ?_
            refine stp (v := .int .i64 (IntKind.i64.wrap (a2 - 1))) rfl rfl (r_sub (a := a2) (b := 1) rfl rfl rfl) ?_
            refine stp (v := Sl.v a3) rfl rfl (r_move rfl rfl) ?_
            refine stpc rfl rfl (r_call (vs := [.agg #[Sl.v a0_0, Sl.v a0_1, .int .i64 a0_2], .int .i64 x93, .int .i64 (IntKind.i64.wrap (a2 - 1)), Sl.v a3]) rfl rfl (ca36 _ _)) ?_
            refine at_call B H (fun y98 w B H => ?_)
            refine stp (v := .bool (!y98)) rfl rfl (r_not (b := y98) rfl rfl) ?_
            refine fin ?_
            refine n95 _ _ ?_
            refine c_cond (b := !y98) rfl (fun hb99 => ?_) (fun hb99 => ?_)
            · replace H := at_itet hb99 H
              refine c_seq (fun Q102 n100 o101 => ?_)
              refine c_region ?_
              refine stp (v := .bool false) rfl rfl (r_assign rfl rfl) ?_
              refine fin ?_
              refine n100 _ _ ?_
              refine c_ret (o85 _ _ _ nofun (by simp) (o82 _ _ _ nofun (o71 _ _ _ nofun (o67 _ _ _ nofun (by simp) (o57 _ _ _ nofun ((done (vs := [.bool false]) (.tmp rfl .nil) rfl ⟨_, rfl, H.now⟩)))))))
            · replace H := at_itef hb99 H
              refine c_skip ?_
              refine n84 _ _ ?_
              refine n81 _ _ ?_
              refine c_region ?_
              refine stp (v := .int .i64 (IntKind.i64.wrap (s2_43 + 1))) rfl rfl (r_add (a := s2_43) (b := 1) rfl rfl rfl) ?_
              refine stp (v := .int .i64 (IntKind.i64.wrap (s2_43 + 1))) rfl rfl (r_move rfl rfl) ?_
              refine fin ?_
              exact nx70 (IntKind.i64.wrap (s2_43 + 1)) _ _ _ B H rfl
          · replace H := at_itef hb80 H
            refine c_exit (o78 _ _ _ nofun (o71 _ _ _ nofun (x68 _ _ ?_)))
            refine n56 _ _ ?_
            refine c_seq (fun Q105 n103 o104 => ?_)
            refine c_region ?_
            refine stp (v := .bool true) rfl rfl (r_assign rfl rfl) ?_
            refine fin ?_
            refine n103 _ _ ?_
            refine c_ret ((done (vs := [.bool true]) (.tmp rfl .nil) rfl ⟨_, rfl, H.now⟩))
def f47_spec_NewCow.T (R : Value → World → Prop) (a0 : Int) : Tm :=
  T.call Try.prog 27 [.int .i64 a0, .int .i64 1, .int .i64 3] Value.bool fun (y12 : Bool) => T.ite (!y12) (T.ret R (.tuple #[.agg #[Sl.v Sl.nil, Sl.v Sl.nil, .int .i64 0], .bool false])) (T.new (.cells #[.int .i64 (-1)] 3) fun (g21 : Nat) => T.ret R (.tuple #[.agg #[Sl.v Sl.nil, Sl.v (⟨some ⟨g21, 0, none⟩, 1, 1⟩ : Sl), .int .i64 a0], .bool true]))
set_option maxHeartbeats 4000000 in
set_option maxRecDepth 100000 in
theorem f47_spec_NewCow.ok (R : Value → World → Prop) (a0 : Int) (w : World) (h : Aft w (fun _ => False) (f47_spec_NewCow.T R a0)) :
    Calls Try.prog 47 (List.toArray [.int .i64 a0]) w fun e w' => ∃ v, e = .returned v ∧ R v w' := by
  refine enter 11 Try.func47 rfl rfl rfl ?_
  have B := Bx.nil w
  have H := h
  clear h
  refine c_seq (fun Q3 n1 o2 => ?_)
  refine c_region ?_
  obtain ⟨w4, N, g5, hw, hg, B, H⟩ := B.new H 26 #[Sl.v Sl.nil, Sl.v Sl.nil, .int .i64 0]
  refine stp (v := .pointer (some ⟨g5, 0, none⟩)) (w' := w4) rfl rfl (r_alloc rfl (alloc_run (al26 _) hw hg)) ?_
  clear hw hg
  refine stp (v := .bool false) rfl rfl (r_assign rfl rfl) ?_
  refine fin ?_
  refine n1 _ _ ?_
  refine c_seq (fun Q8 n6 o7 => ?_)
  refine c_seq (fun Q11 n9 o10 => ?_)
  refine c_region ?_
  refine stp (v := .int .i64 a0) rfl rfl (r_move rfl rfl) ?_
  refine stpc rfl rfl (r_call (vs := [.int .i64 a0, .int .i64 1, .int .i64 3]) rfl rfl (ca27 _ _)) ?_
  refine at_call B H (fun y12 w B H => ?_)
  refine stp (v := .bool (!y12)) rfl rfl (r_not (b := y12) rfl rfl) ?_
  refine fin ?_
  refine n9 _ _ ?_
  refine c_cond (b := !y12) rfl (fun hb13 => ?_) (fun hb13 => ?_)
  · replace H := at_itet hb13 H
    refine c_seq (fun Q16 n14 o15 => ?_)
    refine c_region ?_
    refine stp (v := .agg #[Sl.v Sl.nil, Sl.v Sl.nil, .int .i64 0]) rfl rfl (r_build (qs := []) rfl rfl (site2  _)) ?_
    obtain ⟨w2, hr, B, H⟩ := B.stn H (i := 0) (T := 26) (cs' := #[Sl.v Sl.nil, Sl.v Sl.nil, .int .i64 0]) (ad := ⟨g5, 0, none⟩) rfl rfl rfl rfl sz26
    refine stp0 rfl rfl (r_store (v1 := .pointer (some ⟨g5, 0, none⟩)) (v2 := .agg #[Sl.v Sl.nil, Sl.v Sl.nil, .int .i64 0]) rfl rfl rfl hr) ?_
    replace B : Bx _ _ [⟨g5, 26, #[Sl.v Sl.nil, Sl.v Sl.nil, .int .i64 0]⟩] := B
    clear hr
    refine stp (v := .bool false) rfl rfl (r_assign rfl rfl) ?_
    refine fin ?_
    refine n14 _ _ ?_
    refine c_ret (o7 _ _ _ nofun ((done (vs := [.agg #[Sl.v Sl.nil, Sl.v Sl.nil, .int .i64 0], .bool false]) (.cell rfl (bxn (B.get 0 rfl) Try.underlying26 rfl sz26) (.tmp rfl .nil)) rfl ⟨_, rfl, H.now⟩)))
  · replace H := at_itef hb13 H
    refine c_skip ?_
    refine n6 _ _ ?_
    refine c_seq (fun Q19 n17 o18 => ?_)
    refine c_region ?_
    refine stp (v := .int .i64 a0) rfl rfl (r_move rfl rfl) ?_
    obtain ⟨w20, g21, hw, hg, B, H⟩ := at_new' B H
    refine stp (v := Sl.v (⟨some ⟨g21, 0, none⟩, 1, 1⟩ : Sl)) (w' := w20) rfl rfl (r_buildSlice (qs := [(0, .int .i64 (-1))]) rfl rfl (bs_run (site9 (-1) _) hw hg)) ?_
    clear hw hg
    refine stp (v := .agg #[Sl.v Sl.nil, Sl.v (⟨some ⟨g21, 0, none⟩, 1, 1⟩ : Sl), .int .i64 a0]) rfl rfl (r_build (qs := [(2, .int .i64 a0), (1, Sl.v (⟨some ⟨g21, 0, none⟩, 1, 1⟩ : Sl))]) rfl rfl (site10 a0 (⟨some ⟨g21, 0, none⟩, 1, 1⟩ : Sl) _)) ?_
    obtain ⟨w2, hr, B, H⟩ := B.stn H (i := 0) (T := 26) (cs' := #[Sl.v Sl.nil, Sl.v (⟨some ⟨g21, 0, none⟩, 1, 1⟩ : Sl), .int .i64 a0]) (ad := ⟨g5, 0, none⟩) rfl rfl rfl rfl sz26
    refine stp0 rfl rfl (r_store (v1 := .pointer (some ⟨g5, 0, none⟩)) (v2 := .agg #[Sl.v Sl.nil, Sl.v (⟨some ⟨g21, 0, none⟩, 1, 1⟩ : Sl), .int .i64 a0]) rfl rfl rfl hr) ?_
    replace B : Bx _ _ [⟨g5, 26, #[Sl.v Sl.nil, Sl.v (⟨some ⟨g21, 0, none⟩, 1, 1⟩ : Sl), .int .i64 a0]⟩] := B
    clear hr
    refine stp (v := .bool true) rfl rfl (r_assign rfl rfl) ?_
    refine fin ?_
    refine n17 _ _ ?_
    refine c_ret ((done (vs := [.agg #[Sl.v Sl.nil, Sl.v (⟨some ⟨g21, 0, none⟩, 1, 1⟩ : Sl), .int .i64 a0], .bool true]) (.cell rfl (bxn (B.get 0 rfl) Try.underlying26 rfl sz26) (.tmp rfl .nil)) rfl ⟨_, rfl, H.now⟩))
def f48_spec_TakePicture.J2 (R : Value → World → Prop) (y25 : Sl × Sl × Int) (y38 : Sl) : Tm :=
  T.ret R (.tuple #[.agg #[Sl.v y25.1, Sl.v y38, .int .i64 y25.2.2], .bool true])
def f48_spec_TakePicture.J1 (R : Value → World → Prop) (a0_0 : Sl) (a0_1 : Sl) (a0_2 : Int) (a1 : Int) (j1_24 : Bool) : Tm :=
  T.ite j1_24 (T.ret R (.tuple #[.agg #[Sl.v Sl.nil, Sl.v Sl.nil, .int .i64 0], .bool false])) (T.call Try.prog 30 [.agg #[Sl.v a0_0, Sl.v a0_1, .int .i64 a0_2]] (fun (z : Sl × Sl × Int) => .agg #[Sl.v z.1, Sl.v z.2.1, .int .i64 z.2.2]) fun (y25 : Sl × Sl × Int) => T.idx y25.2.1 a1 1 fun (p30 : Addr) => T.ldc p30 (Value.int .i64) fun (x31 : Int) => T.new (.cells #[.int .i64 x31] 3) fun (g37 : Nat) => T.run Try.prog (Builtin.append_ #[24, 24] 24 #[Sl.v y25.2.1, Sl.v (⟨some ⟨g37, 0, none⟩, 1, 1⟩ : Sl)]) Sl.v fun (y38 : Sl) => T.ite (decide (0 ≤ x31)) (T.idx y25.1 x31 3 fun (p47 : Addr) => T.ldc (p47.add 0) (Value.int .i64) fun (x48 : Int) => T.idx y25.1 x31 3 fun (p51 : Addr) => T.stc (p51.add 0) (.int .i64 (IntKind.i64.wrap (x48 + 1))) (f48_spec_TakePicture.J2 R y25 y38 )) (f48_spec_TakePicture.J2 R y25 y38 ))
def f48_spec_TakePicture.T (R : Value → World → Prop) (a0_0 : Sl) (a0_1 : Sl) (a0_2 : Int) (a1 : Int) : Tm :=
  T.call Try.prog 9 [.agg #[Sl.v a0_0, Sl.v a0_1, .int .i64 a0_2]] Value.bool fun (y14 : Bool) => T.ite (!y14) (f48_spec_TakePicture.J1 R a0_0 a0_1 a0_2 a1 true) (T.call Try.prog 27 [.int .i64 a1, .int .i64 0, .int .i64 (IntKind.i64.wrap ((a0_1.n : Int) - 1))] Value.bool fun (y16 : Bool) => T.ite (!y16) (f48_spec_TakePicture.J1 R a0_0 a0_1 a0_2 a1 true) (f48_spec_TakePicture.J1 R a0_0 a0_1 a0_2 a1 ((a0_1.n : Int) == 8)))
set_option maxHeartbeats 4000000 in
set_option maxRecDepth 100000 in
theorem f48_spec_TakePicture.ok (R : Value → World → Prop) (a0_0 : Sl) (a0_1 : Sl) (a0_2 : Int) (a1 : Int) (w : World) (h : Aft w (fun _ => False) (f48_spec_TakePicture.T R a0_0 a0_1 a0_2 a1)) :
    Calls Try.prog 48 (List.toArray [.agg #[Sl.v a0_0, Sl.v a0_1, .int .i64 a0_2], .int .i64 a1]) w fun e w' => ∃ v, e = .returned v ∧ R v w' := by
  refine enter 51 Try.func48 rfl rfl rfl ?_
  have B := Bx.nil w
  have H := h
  clear h
  refine c_seq (fun Q3 n1 o2 => ?_)
  refine c_region ?_
  obtain ⟨w4, N, g5, hw, hg, B, H⟩ := B.new H 26 #[Sl.v a0_0, Sl.v a0_1, .int .i64 a0_2]
  refine stp (v := .pointer (some ⟨g5, 0, none⟩)) (w' := w4) rfl rfl (r_box (v1 := .agg #[Sl.v a0_0, Sl.v a0_1, .int .i64 a0_2]) rfl rfl (box_run rfl hw hg)) ?_
  clear hw hg
  obtain ⟨w6, N, g7, hw, hg, B, H⟩ := B.new H 26 #[Sl.v Sl.nil, Sl.v Sl.nil, .int .i64 0]
  refine stp (v := .pointer (some ⟨g7, 0, none⟩)) (w' := w6) rfl rfl (r_alloc rfl (alloc_run (al26 _) hw hg)) ?_
  clear hw hg
  refine stp (v := .bool false) rfl rfl (r_assign rfl rfl) ?_
  refine fin ?_
  refine n1 _ _ ?_
  refine c_seq (fun Q10 n8 o9 => ?_)
  refine c_seqj (fun a w => ∃ (j1_24 : Bool) (g : Nat → Value) (N : NP), a = A 51 (updl g [(1, .int .i64 a1), (2, .pointer (some ⟨g5, 0, none⟩)), (4, .pointer (some ⟨g7, 0, none⟩)), (24, .bool j1_24)]) ∧ Bx w N [⟨g7, 26, #[Sl.v Sl.nil, Sl.v Sl.nil, .int .i64 0]⟩, ⟨g5, 26, #[Sl.v a0_0, Sl.v a0_1, .int .i64 a0_2]⟩] ∧ Aft w N (f48_spec_TakePicture.J1 R a0_0 a0_1 a0_2 a1 j1_24)) (fun Q13 n11 o12 => ?_) ?_
  ·
    refine c_region ?_
    refine stp (v := .agg #[Sl.v a0_0, Sl.v a0_1, .int .i64 a0_2]) rfl rfl (r_load (v1 := .pointer (some ⟨g5, 0, none⟩)) rfl rfl (bxn (B.get 1 rfl) Try.underlying26 rfl sz26)) ?_
    refine stpc rfl rfl (r_call (vs := [.agg #[Sl.v a0_0, Sl.v a0_1, .int .i64 a0_2]]) rfl rfl (ca9 _ _)) ?_
    refine at_call B H (fun y14 w B H => ?_)
    refine stp (v := .bool (!y14)) rfl rfl (r_not (b := y14) rfl rfl) ?_
    refine stp (v := .bool (!y14)) rfl rfl (r_move rfl rfl) ?_
    rcases Bool.eq_false_or_eq_true (!y14) with hb15 | hb15
    · replace H := at_itet hb15 H
      refine skp (un rfl rfl rfl rfl (congrArg Value.bool hb15) nofun) rfl ?_
      refine skp (un rfl rfl rfl rfl (congrArg Value.bool hb15) nofun) rfl ?_
      refine skp (un rfl rfl rfl rfl (congrArg Value.bool hb15) nofun) rfl ?_
      refine skp (un rfl rfl rfl rfl (congrArg Value.bool hb15) nofun) rfl ?_
      refine skp (un rfl rfl rfl rfl (congrArg Value.bool hb15) nofun) rfl ?_
      refine skp (un rfl rfl rfl rfl (congrArg Value.bool hb15) nofun) rfl ?_
      refine skp (un rfl rfl rfl rfl (congrArg Value.bool hb15) nofun) rfl ?_
      refine stp (v := .bool true) rfl rfl (r_pickt rfl (congrArg Value.bool hb15) rfl) ?_
      refine stp (v := .bool true) rfl rfl (r_move rfl rfl) ?_
      refine skp (un rfl rfl rfl rfl rfl nofun) rfl ?_
      refine skp (un rfl rfl rfl rfl rfl nofun) rfl ?_
      refine skp (un rfl rfl rfl rfl rfl nofun) rfl ?_
      refine skp (un rfl rfl rfl rfl rfl nofun) rfl ?_
      refine stp (v := .bool true) rfl rfl (r_pickt rfl rfl rfl) ?_
      refine fin ?_
      exact n11 _ _ ⟨true, _, _, fr_self rfl, B, H⟩
    · replace H := at_itef hb15 H
      refine stp (v := .int .i64 a1) (wn rfl rfl rfl rfl (congrArg Value.bool hb15)) rfl (r_move rfl rfl) ?_
      refine stp (v := .pointer (some ⟨g5, 1, none⟩)) (wn rfl rfl rfl rfl (congrArg Value.bool hb15)) rfl (r_fieldAddr (v1 := .pointer (some ⟨g5, 0, none⟩)) rfl rfl (fld26_1 _ _)) ?_
      refine stp (v := Sl.v a0_1) (wn rfl rfl rfl rfl (congrArg Value.bool hb15)) rfl (r_load (v1 := .pointer (some ⟨g5, 1, none⟩)) rfl rfl (ld1 Try.underlying24 rfl (bx1 (B.get 1 rfl) rfl rfl))) ?_
      refine stp (v := .int .i64 (a0_1.n : Int)) (wn rfl rfl rfl rfl (congrArg Value.bool hb15)) rfl (r_builtin (vs := [Sl.v a0_1]) rfl rfl (fun _ => lenl Try.underlying24)) ?_
      refine stp (v := .int .i64 (IntKind.i64.wrap ((a0_1.n : Int) - 1))) (wn rfl rfl rfl rfl (congrArg Value.bool hb15)) rfl (r_sub (a := (a0_1.n : Int)) (b := 1) rfl rfl rfl) ?_
      refine stpc (wn rfl rfl rfl rfl (congrArg Value.bool hb15)) rfl (r_call (vs := [.int .i64 a1, .int .i64 0, .int .i64 (IntKind.i64.wrap ((a0_1.n : Int) - 1))]) rfl rfl (ca27 _ _)) ?_
      refine at_call B H (fun y16 w B H => ?_)
      refine stp (v := .bool (!y16)) (wn rfl rfl rfl rfl (congrArg Value.bool hb15)) rfl (r_not (b := y16) rfl rfl) ?_
      refine stp (v := .bool (!y16)) rfl rfl (r_pickf rfl (congrArg Value.bool hb15) rfl) ?_
      refine stp (v := .bool (!y16)) rfl rfl (r_move rfl rfl) ?_
      rcases Bool.eq_false_or_eq_true (!y16) with hb17 | hb17
      · replace H := at_itet hb17 H
        refine skp (un rfl rfl rfl rfl (congrArg Value.bool hb17) nofun) rfl ?_
        refine skp (un rfl rfl rfl rfl (congrArg Value.bool hb17) nofun) rfl ?_
        refine skp (un rfl rfl rfl rfl (congrArg Value.bool hb17) nofun) rfl ?_
        refine skp (un rfl rfl rfl rfl (congrArg Value.bool hb17) nofun) rfl ?_
        refine stp (v := .bool true) rfl rfl (r_pickt rfl (congrArg Value.bool hb17) rfl) ?_
        refine fin ?_
        exact n11 _ _ ⟨true, _, _, fr_self rfl, B, H⟩
      · replace H := at_itef hb17 H
        refine stp (v := .pointer (some ⟨g5, 1, none⟩)) (wn rfl rfl rfl rfl (congrArg Value.bool hb17)) rfl (r_fieldAddr (v1 := .pointer (some ⟨g5, 0, none⟩)) rfl rfl (fld26_1 _ _)) ?_
        refine stp (v := Sl.v a0_1) (wn rfl rfl rfl rfl (congrArg Value.bool hb17)) rfl (r_load (v1 := .pointer (some ⟨g5, 1, none⟩)) rfl rfl (ld1 Try.underlying24 rfl (bx1 (B.get 1 rfl) rfl rfl))) ?_
        refine stp (v := .int .i64 (a0_1.n : Int)) (wn rfl rfl rfl rfl (congrArg Value.bool hb17)) rfl (r_builtin (vs := [Sl.v a0_1]) rfl rfl (fun _ => lenl Try.underlying24)) ?_
        refine stp (v := .bool ((a0_1.n : Int) == 8)) (wn rfl rfl rfl rfl (congrArg Value.bool hb17)) rfl (r_eql (a := (a0_1.n : Int)) (b := 8) rfl rfl rfl) ?_
        refine stp (v := .bool ((a0_1.n : Int) == 8)) rfl rfl (r_pickf rfl (congrArg Value.bool hb17) rfl) ?_
        refine fin ?_
        exact n11 _ _ ⟨(a0_1.n : Int) == 8, _, _, fr_self rfl, B, H⟩
  ·
    rintro _ w ⟨j1_24, g, N, rfl, B, H⟩
    refine c_cond (b := j1_24) rfl (fun hb18 => ?_) (fun hb18 => ?_)
    · replace H := at_itet hb18 H
      refine c_seq (fun Q21 n19 o20 => ?_)
      refine c_region ?_
      refine stp (v := .agg #[Sl.v Sl.nil, Sl.v Sl.nil, .int .i64 0]) rfl rfl (r_build (qs := []) rfl rfl (site2  _)) ?_
      obtain ⟨w2, hr, B, H⟩ := B.stn H (i := 0) (T := 26) (cs' := #[Sl.v Sl.nil, Sl.v Sl.nil, .int .i64 0]) (ad := ⟨g7, 0, none⟩) rfl rfl rfl rfl sz26
      refine stp0 rfl rfl (r_store (v1 := .pointer (some ⟨g7, 0, none⟩)) (v2 := .agg #[Sl.v Sl.nil, Sl.v Sl.nil, .int .i64 0]) rfl rfl rfl hr) ?_
      replace B : Bx _ _ [⟨g7, 26, #[Sl.v Sl.nil, Sl.v Sl.nil, .int .i64 0]⟩, ⟨g5, 26, #[Sl.v a0_0, Sl.v a0_1, .int .i64 a0_2]⟩] := B
      clear hr
      refine stp (v := .bool false) rfl rfl (r_assign rfl rfl) ?_
      refine fin ?_
      refine n19 _ _ ?_
      refine c_ret (o9 _ _ _ nofun ((done (vs := [.agg #[Sl.v Sl.nil, Sl.v Sl.nil, .int .i64 0], .bool false]) (.cell rfl (bxn (B.get 0 rfl) Try.underlying26 rfl sz26) (.tmp rfl .nil)) rfl ⟨_, rfl, H.now⟩)))
    · replace H := at_itef hb18 H
      refine c_skip ?_
      refine n8 _ _ ?_
      refine c_seq (fun Q24 n22 o23 => ?_)
      refine c_region ?_
      refine stp (v := .agg #[Sl.v a0_0, Sl.v a0_1, .int .i64 a0_2]) rfl rfl (r_load (v1 := .pointer (some ⟨g5, 0, none⟩)) rfl rfl (bxn (B.get 1 rfl) Try.underlying26 rfl sz26)) ?_
      refine stpc rfl rfl (r_call (vs := [.agg #[Sl.v a0_0, Sl.v a0_1, .int .i64 a0_2]]) rfl rfl (ca30 _ _)) ?_
      refine at_call B H (fun y25 w B H => ?_)
      obtain ⟨w2, hr, B, H⟩ := B.stn H (i := 1) (T := 26) (cs' := #[Sl.v y25.1, Sl.v y25.2.1, .int .i64 y25.2.2]) (ad := ⟨g5, 0, none⟩) rfl rfl rfl rfl sz26
      refine stp0 rfl rfl (r_store (v1 := .pointer (some ⟨g5, 0, none⟩)) (v2 := .agg #[Sl.v y25.1, Sl.v y25.2.1, .int .i64 y25.2.2]) rfl rfl rfl hr) ?_
      replace B : Bx _ _ [⟨g7, 26, #[Sl.v Sl.nil, Sl.v Sl.nil, .int .i64 0]⟩, ⟨g5, 26, #[Sl.v y25.1, Sl.v y25.2.1, .int .i64 y25.2.2]⟩] := B
      clear hr
      refine fin ?_
      refine n22 _ _ ?_
      refine c_seq (fun Q28 n26 o27 => ?_)
      refine c_region ?_
      refine stp (v := .pointer (some ⟨g5, 1, none⟩)) rfl rfl (r_fieldAddr (v1 := .pointer (some ⟨g5, 0, none⟩)) rfl rfl (fld26_1 _ _)) ?_
      refine stp (v := Sl.v y25.2.1) rfl rfl (r_load (v1 := .pointer (some ⟨g5, 1, none⟩)) rfl rfl (ld1 Try.underlying24 rfl (bx1 (B.get 1 rfl) rfl rfl))) ?_
      refine stp (v := .int .i64 a1) rfl rfl (r_move rfl rfl) ?_
      obtain ⟨p29, p30, he, h0, h1, hpa, H'⟩ := at_idx' H
      replace H := H'; clear H'
      refine stp (v := .pointer (some p30)) rfl rfl (r_indexAddr (v1 := Sl.v y25.2.1) (v2 := .int .i64 a1) rfl rfl rfl (ix' Try.underlying24 sz3 he h0 h1 hpa)) ?_
      clear he h0 h1 hpa
      obtain ⟨x31, hx32, H'⟩ := at_ldc H
      replace H := H'; clear H'
      refine stp (v := .int .i64 x31) rfl rfl (r_load (v1 := .pointer (some p30)) rfl rfl (ld1 Try.underlying3 rfl (hx32 _ (Below.refl _ _)))) ?_
      refine stp (v := .int .i64 x31) rfl rfl (r_assign rfl rfl) ?_
      refine fin ?_
      refine n26 _ _ ?_
      refine c_seq (fun Q35 n33 o34 => ?_)
      refine c_region ?_
      refine stp (v := .pointer (some ⟨g5, 1, none⟩)) rfl rfl (r_fieldAddr (v1 := .pointer (some ⟨g5, 0, none⟩)) rfl rfl (fld26_1 _ _)) ?_
      refine stp (v := Sl.v y25.2.1) rfl rfl (r_load (v1 := .pointer (some ⟨g5, 1, none⟩)) rfl rfl (ld1 Try.underlying24 rfl (bx1 (B.get 1 rfl) rfl rfl))) ?_
      refine stp (v := .int .i64 x31) rfl rfl (r_move rfl rfl) ?_
      obtain ⟨w36, g37, hw, hg, B, H⟩ := at_new' B H
      refine stp (v := Sl.v (⟨some ⟨g37, 0, none⟩, 1, 1⟩ : Sl)) (w' := w36) rfl rfl (r_buildSlice (qs := [(0, .int .i64 x31)]) rfl rfl (bs_run (site9 x31 _) hw hg)) ?_
      clear hw hg
      obtain ⟨y38, w2, hr, B, H⟩ := at_run B H
      refine stp (v := Sl.v y38) rfl rfl (r_builtin (vs := [Sl.v y25.2.1, Sl.v (⟨some ⟨g37, 0, none⟩, 1, 1⟩ : Sl)]) rfl rfl (fun _ => bi_append hr)) ?_
      clear hr
      refine stp (v := .pointer (some ⟨g5, 1, none⟩)) rfl rfl (r_fieldAddr (v1 := .pointer (some ⟨g5, 0, none⟩)) rfl rfl (fld26_1 _ _)) ?_
      obtain ⟨w2, hr, B, H⟩ := B.st1 H (i := 1) (j := 1) (T := 24) (v := Sl.v y38) (ad := ⟨g5, 1, none⟩) rfl rfl rfl rfl sz24
      refine stp0 rfl rfl (r_store (v1 := .pointer (some ⟨g5, 1, none⟩)) (v2 := Sl.v y38) rfl rfl rfl hr) ?_
      replace B : Bx _ _ [⟨g7, 26, #[Sl.v Sl.nil, Sl.v Sl.nil, .int .i64 0]⟩, ⟨g5, 26, #[Sl.v y25.1, Sl.v y38, .int .i64 y25.2.2]⟩] := B
      clear hr
      refine fin ?_
      refine n33 _ _ ?_
      refine c_seqj (fun a w => ∃ (g : Nat → Value) (N : NP), a = A 51 (updl g [(2, .pointer (some ⟨g5, 0, none⟩)), (4, .pointer (some ⟨g7, 0, none⟩))]) ∧ Bx w N [⟨g7, 26, #[Sl.v Sl.nil, Sl.v Sl.nil, .int .i64 0]⟩, ⟨g5, 26, #[Sl.v y25.1, Sl.v y38, .int .i64 y25.2.2]⟩] ∧ Aft w N (f48_spec_TakePicture.J2 R y25 y38 )) (fun Q41 n39 o40 => ?_) ?_
      ·
        refine c_seq (fun Q44 n42 o43 => ?_)
        refine c_region ?_
        refine stp (v := .int .i64 x31) rfl rfl (r_move rfl rfl) ?_
        refine stp (v := .bool (decide (0 ≤ x31))) rfl rfl (r_geq (a := x31) (b := 0) rfl rfl rfl) ?_
        refine fin ?_
        refine n42 _ _ ?_
        refine c_cond (b := decide (0 ≤ x31)) rfl (fun hb45 => ?_) (fun hb45 => ?_)
        · replace H := at_itet hb45 H
          refine c_region ?_
          refine stp (v := .pointer (some ⟨g5, 0, none⟩)) rfl rfl (r_fieldAddr (v1 := .pointer (some ⟨g5, 0, none⟩)) rfl rfl (fld26_0 _ _)) ?_
          refine stp (v := Sl.v y25.1) rfl rfl (r_load (v1 := .pointer (some ⟨g5, 0, none⟩)) rfl rfl (ld1 Try.underlying23 rfl (bx1 (B.get 1 rfl) rfl rfl))) ?_
          refine stp (v := .int .i64 x31) rfl rfl (r_move rfl rfl) ?_
          obtain ⟨p46, p47, he, h0, h1, hpa, H'⟩ := at_idx' H
          replace H := H'; clear H'
          refine stp (v := .pointer (some p47)) rfl rfl (r_indexAddr (v1 := Sl.v y25.1) (v2 := .int .i64 x31) rfl rfl rfl (ix' Try.underlying23 sz70 he h0 h1 hpa)) ?_
          clear he h0 h1 hpa
          refine stp (v := .pointer (some (p47.add 0))) rfl rfl (r_fieldAddr (v1 := .pointer (some p47)) rfl rfl (fld70_0 _ _)) ?_
          obtain ⟨x48, hx49, H'⟩ := at_ldc H
          replace H := H'; clear H'
          refine stp (v := .int .i64 x48) rfl rfl (r_load (v1 := .pointer (some (p47.add 0))) rfl rfl (ld1 Try.underlying3 rfl (hx49 _ (Below.refl _ _)))) ?_
          refine stp (v := .int .i64 (IntKind.i64.wrap (x48 + 1))) rfl rfl (r_add (a := x48) (b := 1) rfl rfl rfl) ?_
          obtain ⟨p50, p51, he, h0, h1, hpa, H'⟩ := at_idx' H
          replace H := H'; clear H'
          refine stp (v := .pointer (some p51)) rfl rfl (r_indexAddr (v1 := Sl.v y25.1) (v2 := .int .i64 x31) rfl rfl rfl (ix' Try.underlying23 sz70 he h0 h1 hpa)) ?_
          clear he h0 h1 hpa
          refine stp (v := .pointer (some (p51.add 0))) rfl rfl (r_fieldAddr (v1 := .pointer (some p51)) rfl rfl (fld70_0 _ _)) ?_
          obtain ⟨hc52, hf53, B', H'⟩ := at_stc B H
          replace B := B'; clear B'
          replace H := H'; clear H'
          refine stp0 rfl rfl (r_store (v1 := .pointer (some (p51.add 0))) (v2 := .int .i64 (IntKind.i64.wrap (x48 + 1))) rfl rfl rfl (st1 rfl sz3 hc52 hf53)) ?_
          refine fin ?_
          exact n39 _ _ ⟨_, _, fr_self rfl, B, H⟩
        · replace H := at_itef hb45 H
          refine c_skip ?_
          exact n39 _ _ ⟨_, _, fr_self rfl, B, H⟩
      ·
        rintro _ w ⟨g, N, rfl, B, H⟩
        refine c_seq (fun Q56 n54 o55 => ?_)
        refine c_region ?_
        refine stp (v := .agg #[Sl.v y25.1, Sl.v y38, .int .i64 y25.2.2]) rfl rfl (r_load (v1 := .pointer (some ⟨g5, 0, none⟩)) rfl rfl (bxn (B.get 1 rfl) Try.underlying26 rfl sz26)) ?_
        obtain ⟨w2, hr, B, H⟩ := B.stn H (i := 0) (T := 26) (cs' := #[Sl.v y25.1, Sl.v y38, .int .i64 y25.2.2]) (ad := ⟨g7, 0, none⟩) rfl rfl rfl rfl sz26
        refine stp0 rfl rfl (r_store (v1 := .pointer (some ⟨g7, 0, none⟩)) (v2 := .agg #[Sl.v y25.1, Sl.v y38, .int .i64 y25.2.2]) rfl rfl rfl hr) ?_
        replace B : Bx _ _ [⟨g7, 26, #[Sl.v y25.1, Sl.v y38, .int .i64 y25.2.2]⟩, ⟨g5, 26, #[Sl.v y25.1, Sl.v y38, .int .i64 y25.2.2]⟩] := B
        clear hr
        refine stp (v := .bool true) rfl rfl (r_assign rfl rfl) ?_
        refine fin ?_
        refine n54 _ _ ?_
        refine c_ret ((done (vs := [.agg #[Sl.v y25.1, Sl.v y38, .int .i64 y25.2.2], .bool true]) (.cell rfl (bxn (B.get 0 rfl) Try.underlying26 rfl sz26) (.tmp rfl .nil)) rfl ⟨_, rfl, H.now⟩))
def f49_spec_DropPicture.J1 (R : Value → World → Prop) (a0_0 : Sl) (a0_1 : Sl) (a0_2 : Int) (a1 : Int) (j1_23 : Bool) : Tm :=
  T.ite j1_23 (T.ret R (.tuple #[.agg #[Sl.v Sl.nil, Sl.v Sl.nil, .int .i64 0], .bool false])) (T.idx a0_1 a1 1 fun (p26 : Addr) => T.ldc p26 (Value.int .i64) fun (x31 : Int) => T.call Try.prog 30 [.agg #[Sl.v a0_0, Sl.v a0_1, .int .i64 a0_2]] (fun (z : Sl × Sl × Int) => .agg #[Sl.v z.1, Sl.v z.2.1, .int .i64 z.2.2]) fun (y38 : Sl × Sl × Int) => T.chk p26 (Value.int .i64) x31 (T.call Try.prog 63 [.agg #[Sl.v y38.1, Sl.v y38.2.1, .int .i64 y38.2.2], .int .i64 x31] (fun (z : Sl × Sl × Int) => .agg #[Sl.v z.1, Sl.v z.2.1, .int .i64 z.2.2]) fun (y39 : Sl × Sl × Int) => T.ass (0 ≤ (0 : Int) ∧ (0 : Int) ≤ a1 ∧ a1 ≤ (y39.2.1.c : Int) ∧ (y39.2.1.c : Int) ≤ (y39.2.1.c : Int)) (T.ass (0 ≤ (IntKind.i64.wrap (a1 + 1)) ∧ (IntKind.i64.wrap (a1 + 1)) ≤ (y39.2.1.n : Int) ∧ (y39.2.1.n : Int) ≤ (y39.2.1.c : Int) ∧ (y39.2.1.c : Int) ≤ (y39.2.1.c : Int)) (T.new (.cells #[] 3) fun (g50 : Nat) => T.run Try.prog (Builtin.append_ #[24, 24] 24 #[Sl.v (⟨some ⟨g50, 0, none⟩, 0, 0⟩ : Sl), Sl.v (y39.2.1.cut 1 (0 : Int).toNat a1.toNat (y39.2.1.c : Int).toNat)]) Sl.v fun (y51 : Sl) => T.run Try.prog (Builtin.append_ #[24, 24] 24 #[Sl.v y51, Sl.v (y39.2.1.cut 1 (IntKind.i64.wrap (a1 + 1)).toNat (y39.2.1.n : Int).toNat (y39.2.1.c : Int).toNat)]) Sl.v fun (y52 : Sl) => T.ret R (.tuple #[.agg #[Sl.v y39.1, Sl.v y52, .int .i64 y39.2.2], .bool true])))))
def f49_spec_DropPicture.T (R : Value → World → Prop) (a0_0 : Sl) (a0_1 : Sl) (a0_2 : Int) (a1 : Int) : Tm :=
  T.call Try.prog 9 [.agg #[Sl.v a0_0, Sl.v a0_1, .int .i64 a0_2]] Value.bool fun (y14 : Bool) => T.ite (!y14) (f49_spec_DropPicture.J1 R a0_0 a0_1 a0_2 a1 true) (T.call Try.prog 27 [.int .i64 a1, .int .i64 0, .int .i64 (IntKind.i64.wrap ((a0_1.n : Int) - 1))] Value.bool fun (y16 : Bool) => T.ite (!y16) (f49_spec_DropPicture.J1 R a0_0 a0_1 a0_2 a1 true) (f49_spec_DropPicture.J1 R a0_0 a0_1 a0_2 a1 ((a0_1.n : Int) == 1)))
set_option maxHeartbeats 4000000 in
set_option maxRecDepth 100000 in
theorem f49_spec_DropPicture.ok (R : Value → World → Prop) (a0_0 : Sl) (a0_1 : Sl) (a0_2 : Int) (a1 : Int) (w : World) (h : Aft w (fun _ => False) (f49_spec_DropPicture.T R a0_0 a0_1 a0_2 a1)) :
    Calls Try.prog 49 (List.toArray [.agg #[Sl.v a0_0, Sl.v a0_1, .int .i64 a0_2], .int .i64 a1]) w fun e w' => ∃ v, e = .returned v ∧ R v w' := by
  refine enter 47 Try.func49 rfl rfl rfl ?_
  have B := Bx.nil w
  have H := h
  clear h
  refine c_seq (fun Q3 n1 o2 => ?_)
  refine c_region ?_
  obtain ⟨w4, N, g5, hw, hg, B, H⟩ := B.new H 26 #[Sl.v a0_0, Sl.v a0_1, .int .i64 a0_2]
  refine stp (v := .pointer (some ⟨g5, 0, none⟩)) (w' := w4) rfl rfl (r_box (v1 := .agg #[Sl.v a0_0, Sl.v a0_1, .int .i64 a0_2]) rfl rfl (box_run rfl hw hg)) ?_
  clear hw hg
  obtain ⟨w6, N, g7, hw, hg, B, H⟩ := B.new H 26 #[Sl.v Sl.nil, Sl.v Sl.nil, .int .i64 0]
  refine stp (v := .pointer (some ⟨g7, 0, none⟩)) (w' := w6) rfl rfl (r_alloc rfl (alloc_run (al26 _) hw hg)) ?_
  clear hw hg
  refine stp (v := .bool false) rfl rfl (r_assign rfl rfl) ?_
  refine fin ?_
  refine n1 _ _ ?_
  refine c_seq (fun Q10 n8 o9 => ?_)
  refine c_seqj (fun a w => ∃ (j1_23 : Bool) (g : Nat → Value) (N : NP), a = A 47 (updl g [(1, .int .i64 a1), (2, .pointer (some ⟨g5, 0, none⟩)), (4, .pointer (some ⟨g7, 0, none⟩)), (23, .bool j1_23)]) ∧ Bx w N [⟨g7, 26, #[Sl.v Sl.nil, Sl.v Sl.nil, .int .i64 0]⟩, ⟨g5, 26, #[Sl.v a0_0, Sl.v a0_1, .int .i64 a0_2]⟩] ∧ Aft w N (f49_spec_DropPicture.J1 R a0_0 a0_1 a0_2 a1 j1_23)) (fun Q13 n11 o12 => ?_) ?_
  ·
    refine c_region ?_
    refine stp (v := .agg #[Sl.v a0_0, Sl.v a0_1, .int .i64 a0_2]) rfl rfl (r_load (v1 := .pointer (some ⟨g5, 0, none⟩)) rfl rfl (bxn (B.get 1 rfl) Try.underlying26 rfl sz26)) ?_
    refine stpc rfl rfl (r_call (vs := [.agg #[Sl.v a0_0, Sl.v a0_1, .int .i64 a0_2]]) rfl rfl (ca9 _ _)) ?_
    refine at_call B H (fun y14 w B H => ?_)
    refine stp (v := .bool (!y14)) rfl rfl (r_not (b := y14) rfl rfl) ?_
    refine stp (v := .bool (!y14)) rfl rfl (r_move rfl rfl) ?_
    rcases Bool.eq_false_or_eq_true (!y14) with hb15 | hb15
    · replace H := at_itet hb15 H
      refine skp (un rfl rfl rfl rfl (congrArg Value.bool hb15) nofun) rfl ?_
      refine skp (un rfl rfl rfl rfl (congrArg Value.bool hb15) nofun) rfl ?_
      refine skp (un rfl rfl rfl rfl (congrArg Value.bool hb15) nofun) rfl ?_
      refine skp (un rfl rfl rfl rfl (congrArg Value.bool hb15) nofun) rfl ?_
      refine skp (un rfl rfl rfl rfl (congrArg Value.bool hb15) nofun) rfl ?_
      refine skp (un rfl rfl rfl rfl (congrArg Value.bool hb15) nofun) rfl ?_
      refine skp (un rfl rfl rfl rfl (congrArg Value.bool hb15) nofun) rfl ?_
      refine stp (v := .bool true) rfl rfl (r_pickt rfl (congrArg Value.bool hb15) rfl) ?_
      refine stp (v := .bool true) rfl rfl (r_move rfl rfl) ?_
      refine skp (un rfl rfl rfl rfl rfl nofun) rfl ?_
      refine skp (un rfl rfl rfl rfl rfl nofun) rfl ?_
      refine skp (un rfl rfl rfl rfl rfl nofun) rfl ?_
      refine skp (un rfl rfl rfl rfl rfl nofun) rfl ?_
      refine stp (v := .bool true) rfl rfl (r_pickt rfl rfl rfl) ?_
      refine fin ?_
      exact n11 _ _ ⟨true, _, _, fr_self rfl, B, H⟩
    · replace H := at_itef hb15 H
      refine stp (v := .int .i64 a1) (wn rfl rfl rfl rfl (congrArg Value.bool hb15)) rfl (r_move rfl rfl) ?_
      refine stp (v := .pointer (some ⟨g5, 1, none⟩)) (wn rfl rfl rfl rfl (congrArg Value.bool hb15)) rfl (r_fieldAddr (v1 := .pointer (some ⟨g5, 0, none⟩)) rfl rfl (fld26_1 _ _)) ?_
      refine stp (v := Sl.v a0_1) (wn rfl rfl rfl rfl (congrArg Value.bool hb15)) rfl (r_load (v1 := .pointer (some ⟨g5, 1, none⟩)) rfl rfl (ld1 Try.underlying24 rfl (bx1 (B.get 1 rfl) rfl rfl))) ?_
      refine stp (v := .int .i64 (a0_1.n : Int)) (wn rfl rfl rfl rfl (congrArg Value.bool hb15)) rfl (r_builtin (vs := [Sl.v a0_1]) rfl rfl (fun _ => lenl Try.underlying24)) ?_
      refine stp (v := .int .i64 (IntKind.i64.wrap ((a0_1.n : Int) - 1))) (wn rfl rfl rfl rfl (congrArg Value.bool hb15)) rfl (r_sub (a := (a0_1.n : Int)) (b := 1) rfl rfl rfl) ?_
      refine stpc (wn rfl rfl rfl rfl (congrArg Value.bool hb15)) rfl (r_call (vs := [.int .i64 a1, .int .i64 0, .int .i64 (IntKind.i64.wrap ((a0_1.n : Int) - 1))]) rfl rfl (ca27 _ _)) ?_
      refine at_call B H (fun y16 w B H => ?_)
      refine stp (v := .bool (!y16)) (wn rfl rfl rfl rfl (congrArg Value.bool hb15)) rfl (r_not (b := y16) rfl rfl) ?_
      refine stp (v := .bool (!y16)) rfl rfl (r_pickf rfl (congrArg Value.bool hb15) rfl) ?_
      refine stp (v := .bool (!y16)) rfl rfl (r_move rfl rfl) ?_
      rcases Bool.eq_false_or_eq_true (!y16) with hb17 | hb17
      · replace H := at_itet hb17 H
        refine skp (un rfl rfl rfl rfl (congrArg Value.bool hb17) nofun) rfl ?_
        refine skp (un rfl rfl rfl rfl (congrArg Value.bool hb17) nofun) rfl ?_
        refine skp (un rfl rfl rfl rfl (congrArg Value.bool hb17) nofun) rfl ?_
        refine skp (un rfl rfl rfl rfl (congrArg Value.bool hb17) nofun) rfl ?_
        refine stp (v := .bool true) rfl rfl (r_pickt rfl (congrArg Value.bool hb17) rfl) ?_
        refine fin ?_
        exact n11 _ _ ⟨true, _, _, fr_self rfl, B, H⟩
      · replace H := at_itef hb17 H
        refine stp (v := .pointer (some ⟨g5, 1, none⟩)) (wn rfl rfl rfl rfl (congrArg Value.bool hb17)) rfl (r_fieldAddr (v1 := .pointer (some ⟨g5, 0, none⟩)) rfl rfl (fld26_1 _ _)) ?_
        refine stp (v := Sl.v a0_1) (wn rfl rfl rfl rfl (congrArg Value.bool hb17)) rfl (r_load (v1 := .pointer (some ⟨g5, 1, none⟩)) rfl rfl (ld1 Try.underlying24 rfl (bx1 (B.get 1 rfl) rfl rfl))) ?_
        refine stp (v := .int .i64 (a0_1.n : Int)) (wn rfl rfl rfl rfl (congrArg Value.bool hb17)) rfl (r_builtin (vs := [Sl.v a0_1]) rfl rfl (fun _ => lenl Try.underlying24)) ?_
        refine stp (v := .bool ((a0_1.n : Int) == 1)) (wn rfl rfl rfl rfl (congrArg Value.bool hb17)) rfl (r_eql (a := (a0_1.n : Int)) (b := 1) rfl rfl rfl) ?_
        refine stp (v := .bool ((a0_1.n : Int) == 1)) rfl rfl (r_pickf rfl (congrArg Value.bool hb17) rfl) ?_
        refine fin ?_
        exact n11 _ _ ⟨(a0_1.n : Int) == 1, _, _, fr_self rfl, B, H⟩
  ·
    rintro _ w ⟨j1_23, g, N, rfl, B, H⟩
    refine c_cond (b := j1_23) rfl (fun hb18 => ?_) (fun hb18 => ?_)
    · replace H := at_itet hb18 H
      refine c_seq (fun Q21 n19 o20 => ?_)
      refine c_region ?_
      refine stp (v := .agg #[Sl.v Sl.nil, Sl.v Sl.nil, .int .i64 0]) rfl rfl (r_build (qs := []) rfl rfl (site2  _)) ?_
      obtain ⟨w2, hr, B, H⟩ := B.stn H (i := 0) (T := 26) (cs' := #[Sl.v Sl.nil, Sl.v Sl.nil, .int .i64 0]) (ad := ⟨g7, 0, none⟩) rfl rfl rfl rfl sz26
      refine stp0 rfl rfl (r_store (v1 := .pointer (some ⟨g7, 0, none⟩)) (v2 := .agg #[Sl.v Sl.nil, Sl.v Sl.nil, .int .i64 0]) rfl rfl rfl hr) ?_
      replace B : Bx _ _ [⟨g7, 26, #[Sl.v Sl.nil, Sl.v Sl.nil, .int .i64 0]⟩, ⟨g5, 26, #[Sl.v a0_0, Sl.v a0_1, .int .i64 a0_2]⟩] := B
      clear hr
      refine stp (v := .bool false) rfl rfl (r_assign rfl rfl) ?_
      refine fin ?_
      refine n19 _ _ ?_
      refine c_ret (o9 _ _ _ nofun ((done (vs := [.agg #[Sl.v Sl.nil, Sl.v Sl.nil, .int .i64 0], .bool false]) (.cell rfl (bxn (B.get 0 rfl) Try.underlying26 rfl sz26) (.tmp rfl .nil)) rfl ⟨_, rfl, H.now⟩)))
    · replace H := at_itef hb18 H
      refine c_skip ?_
      refine n8 _ _ ?_
      refine c_seq (fun Q24 n22 o23 => ?_)
      refine c_open 7 (kap [1] []) (fun i b => .pointer (some ⟨b, 0, none⟩)) (fun _ => []) (fun i => []) [0, 2, 3, 4, 5, 6, 1] [] [] _ rfl (by kernel_rfl) (by kernel_rfl) rfl B (flk (by simp) al_nil) ?_
      refine ph_q (v := .agg #[Sl.v a0_0, Sl.v a0_1, .int .i64 a0_2]) rfl rfl rfl (hv_ok rfl rfl) (qy_val rfl (fun w_ ρ_ hb_ => (r_load (v1 := .pointer (some ⟨g5, 0, none⟩)) rfl rfl (bxn (hb_.get 1 rfl) Try.underlying26 rfl sz26)))) ?_
      refine ph_q (v := .pointer (some ⟨g5, 1, none⟩)) rfl rfl rfl (hv_ok rfl rfl) (qy_val rfl (fun w_ ρ_ hb_ => (r_fieldAddr (v1 := .pointer (some ⟨g5, 0, none⟩)) rfl rfl (fld26_1 _ _)))) ?_
      refine ph_q (v := Sl.v a0_1) rfl rfl rfl (hv_ok rfl rfl) (qy_val rfl (fun w_ ρ_ hb_ => (r_load (v1 := .pointer (some ⟨g5, 1, none⟩)) rfl rfl (ld1 Try.underlying24 rfl (bx1 (hb_.get 1 rfl) rfl rfl))))) ?_
      refine ph_q (v := .int .i64 a1) rfl rfl rfl (hv_ok rfl rfl) (qy_val rfl (fun w_ ρ_ hb_ => (r_move rfl rfl))) ?_
      obtain ⟨p25, p26, he27, h028, h129, hpa30, H'⟩ := at_idx' H
      replace H := H'; clear H'
      refine ph_q (v := .pointer (some p26)) rfl rfl rfl (hv_ok rfl rfl) (qy_val rfl (fun w_ ρ_ hb_ => (r_indexAddr (v1 := Sl.v a0_1) (v2 := .int .i64 a1) rfl rfl rfl (ix' Try.underlying24 sz3 he27 h028 h129 hpa30)))) ?_
      obtain ⟨x31, hx32, H'⟩ := at_ldcz H
      replace H := H'; clear H'
      refine ph_q (v := .int .i64 x31) rfl rfl rfl (hv_ok rfl rfl) (qy_val rfl (fun w_ ρ_ hb_ => (r_load (v1 := .pointer (some p26)) rfl rfl (ld1 Try.underlying3 rfl (Cls.ld hx32 hb_))))) ?_
      refine ph_e rfl rfl (fun w33 ρ37 hc hs => ?_)
      obtain ⟨hx, N34, hz35, B36⟩ := hc
      replace H := H.step hz35
      clear hz35
      refine ef_call rfl (r_call (vs := [.agg #[Sl.v a0_0, Sl.v a0_1, .int .i64 a0_2]]) rfl rfl (ca30 _ _)) (at_call B36 H (fun y38 w2 B H => ?_))
      replace H := at_chk H; obtain ⟨hx32, H'⟩ := H; replace H := H'; clear H'
      refine ⟨Cls w2 N34 [⟨g7, 26, #[Sl.v Sl.nil, Sl.v Sl.nil, .int .i64 0]⟩, ⟨g5, 26, #[Sl.v a0_0, Sl.v a0_1, .int .i64 a0_2]⟩] [] [], Cls.now hx B, (flk (by simp) al_nil), (pd_anc (re := [6, 5, 4, 3, 2]) (by kernel_rfl) (re_cons rfl rfl rfl (qy_val rfl (fun w_ ρ_ hb_ => (r_load (v1 := .pointer (some p26)) rfl rfl (ld1 Try.underlying3 rfl (Cls.ld hx32 hb_))))) (re_cons rfl rfl rfl (qy_val rfl (fun w_ ρ_ hb_ => (r_indexAddr (v1 := Sl.v a0_1) (v2 := .int .i64 a1) rfl rfl rfl (ix' Try.underlying24 sz3 he27 h028 h129 hpa30)))) (re_cons rfl rfl rfl (qy_val rfl (fun w_ ρ_ hb_ => (r_move rfl rfl))) (re_cons rfl rfl rfl (qy_val rfl (fun w_ ρ_ hb_ => (r_load (v1 := .pointer (some ⟨g5, 1, none⟩)) rfl rfl (ld1 Try.underlying24 rfl (bx1 (hb_.get 1 rfl) rfl rfl))))) (re_cons rfl rfl rfl (qy_val rfl (fun w_ ρ_ hb_ => (r_fieldAddr (v1 := .pointer (some ⟨g5, 0, none⟩)) rfl rfl (fld26_1 _ _)))) re_nil)))))), ?_⟩
      clear hx
      replace B := B.sub (List.sublist_append_right _ _)
      refine ph_nil0 (fun w N hz B => ?_)
      replace H := H.step hz
      refine stpc rfl rfl (r_call (vs := [.agg #[Sl.v y38.1, Sl.v y38.2.1, .int .i64 y38.2.2], .int .i64 x31]) rfl rfl (ca63 _ _)) ?_
      refine at_call B H (fun y39 w B H => ?_)
      obtain ⟨w2, hr, B, H⟩ := B.stn H (i := 1) (T := 26) (cs' := #[Sl.v y39.1, Sl.v y39.2.1, .int .i64 y39.2.2]) (ad := ⟨g5, 0, none⟩) rfl rfl rfl rfl sz26
      refine stp0 rfl rfl (r_store (v1 := .pointer (some ⟨g5, 0, none⟩)) (v2 := .agg #[Sl.v y39.1, Sl.v y39.2.1, .int .i64 y39.2.2]) rfl rfl rfl hr) ?_
      replace B : Bx _ _ [⟨g7, 26, #[Sl.v Sl.nil, Sl.v Sl.nil, .int .i64 0]⟩, ⟨g5, 26, #[Sl.v y39.1, Sl.v y39.2.1, .int .i64 y39.2.2]⟩] := B
      clear hr
      refine fin ?_
      refine n22 _ _ ?_
      refine c_seq (fun Q42 n40 o41 => ?_)
      refine c_open 11 (kap [5] [0]) (fun i b => bif Nat.beq i 0 then .slice (some ⟨b, 0, none⟩) 0 0 else .pointer (some ⟨b, 0, none⟩)) (fun _ => []) (fun i => bif Nat.beq i 5 then [(0, 33)] else []) [1, 2, 3, 4, 6, 7, 8, 9, 10, 5] [(0, 33)] [(0, 3, #[])] _ rfl (by kernel_rfl) (by kernel_rfl) rfl B (flk (by simp) (al_cons rfl (.inr rfl) (fun _ g hg => (r_buildSlice (qs := []) rfl rfl (bs_run (site3  _) rfl rfl))) al_nil)) ?_
      refine ph_q (v := .pointer (some ⟨g5, 1, none⟩)) rfl rfl rfl (hv_ok rfl rfl) (qy_val rfl (fun w_ ρ_ hb_ => (r_fieldAddr (v1 := .pointer (some ⟨g5, 0, none⟩)) rfl rfl (fld26_1 _ _)))) ?_
      refine ph_q (v := Sl.v y39.2.1) rfl rfl rfl (hv_ok rfl rfl) (qy_val rfl (fun w_ ρ_ hb_ => (r_load (v1 := .pointer (some ⟨g5, 1, none⟩)) rfl rfl (ld1 Try.underlying24 rfl (bx1 (hb_.get 1 rfl) rfl rfl))))) ?_
      refine ph_q (v := .int .i64 a1) rfl rfl rfl (hv_ok rfl rfl) (qy_val rfl (fun w_ ρ_ hb_ => (r_move rfl rfl))) ?_
      obtain ⟨ha, H'⟩ := at_ass H
      replace H := H'; clear H'
      have ha43 := ha
      refine ph_q (v := Sl.v (y39.2.1.cut 1 (0 : Int).toNat a1.toNat (y39.2.1.c : Int).toNat)) rfl rfl rfl (hv_ok rfl rfl) (qy_val rfl (fun w_ ρ_ hb_ => (r_slice (v1 := Sl.v y39.2.1) (lo' := none) (hi' := (some (.int .i64 a1))) (mx' := none) rfl rfl rfl rfl rfl (cut010 Try.underlying24 sz3 ha43)))) ?_
      clear ha
      refine ph_q (v := .pointer (some ⟨g5, 1, none⟩)) rfl rfl rfl (hv_ok rfl rfl) (qy_val rfl (fun w_ ρ_ hb_ => (r_fieldAddr (v1 := .pointer (some ⟨g5, 0, none⟩)) rfl rfl (fld26_1 _ _)))) ?_
      refine ph_q (v := Sl.v y39.2.1) rfl rfl rfl (hv_ok rfl rfl) (qy_val rfl (fun w_ ρ_ hb_ => (r_load (v1 := .pointer (some ⟨g5, 1, none⟩)) rfl rfl (ld1 Try.underlying24 rfl (bx1 (hb_.get 1 rfl) rfl rfl))))) ?_
      refine ph_q (v := .int .i64 a1) rfl rfl rfl (hv_ok rfl rfl) (qy_val rfl (fun w_ ρ_ hb_ => (r_move rfl rfl))) ?_
      refine ph_q (v := .int .i64 (IntKind.i64.wrap (a1 + 1))) rfl rfl rfl (hv_ok rfl rfl) (qy_val rfl (fun w_ ρ_ hb_ => (r_add (a := a1) (b := 1) rfl rfl rfl))) ?_
      obtain ⟨ha, H'⟩ := at_ass H
      replace H := H'; clear H'
      have ha44 := ha
      refine ph_q (v := Sl.v (y39.2.1.cut 1 (IntKind.i64.wrap (a1 + 1)).toNat (y39.2.1.n : Int).toNat (y39.2.1.c : Int).toNat)) rfl rfl rfl (hv_ok rfl rfl) (qy_val rfl (fun w_ ρ_ hb_ => (r_slice (v1 := Sl.v y39.2.1) (lo' := (some (.int .i64 (IntKind.i64.wrap (a1 + 1))))) (hi' := none) (mx' := none) rfl rfl rfl rfl rfl (cut100 Try.underlying24 sz3 ha44)))) ?_
      clear ha
      refine ph_e rfl rfl (fun w45 ρ49 hc hs => ?_)
      obtain ⟨hx, N46, hz47, B48⟩ := hc
      replace H := H.step hz47
      clear hz47
      obtain ⟨g50, hg0⟩ := Option.isSome_iff_exists.1 (hs (0, 33) (by simp))
      obtain ⟨N46, B48, H⟩ := at_pub (g := g50) (T := 3) (cs := #[]) (bs := flb [] ρ49 ++ [⟨g7, 26, #[Sl.v Sl.nil, Sl.v Sl.nil, .int .i64 0]⟩, ⟨g5, 26, #[Sl.v y39.1, Sl.v y39.2.1, .int .i64 y39.2.2]⟩]) (by simpa only [flb, List.filterMap_cons, hg0, Option.map_some, List.cons_append] using B48) H
      replace hx := hx_cons hg0 hx
      refine EF_frame (f' := updl _ [(33, .slice (some ⟨g50, 0, none⟩) 0 0)]) (wfl_cons hg0 rfl wfl_nil) ?_
      obtain ⟨y51, w2, hr, B, H⟩ := at_run B48 H
      refine ef_val (v := Sl.v y51) rfl (r_builtin (vs := [Sl.v (⟨some ⟨g50, 0, none⟩, 0, 0⟩ : Sl), Sl.v (y39.2.1.cut 1 (0 : Int).toNat a1.toNat (y39.2.1.c : Int).toNat)]) rfl rfl (fun _ => bi_append hr)) ?_
      clear hr
      refine ⟨Cls w2 N46 [⟨g7, 26, #[Sl.v Sl.nil, Sl.v Sl.nil, .int .i64 0]⟩, ⟨g5, 26, #[Sl.v y39.1, Sl.v y39.2.1, .int .i64 y39.2.2]⟩] [] [(0, g50)], Cls.now hx B, (flk (by simp) (al_cons rfl (.inl rfl) (fun _ g hg => (r_buildSlice (qs := []) rfl rfl (bs_run (site3  _) rfl rfl))) al_nil)), (pd_anc (re := [10, 9, 8, 7, 6]) (by kernel_rfl) (re_cons rfl rfl rfl (qy_val rfl (fun w_ ρ_ hb_ => (r_slice (v1 := Sl.v y39.2.1) (lo' := (some (.int .i64 (IntKind.i64.wrap (a1 + 1))))) (hi' := none) (mx' := none) rfl rfl rfl rfl rfl (cut100 Try.underlying24 sz3 ha44)))) (re_cons rfl rfl rfl (qy_val rfl (fun w_ ρ_ hb_ => (r_add (a := a1) (b := 1) rfl rfl rfl))) (re_cons rfl rfl rfl (qy_val rfl (fun w_ ρ_ hb_ => (r_move rfl rfl))) (re_cons rfl rfl rfl (qy_val rfl (fun w_ ρ_ hb_ => (r_load (v1 := .pointer (some ⟨g5, 1, none⟩)) rfl rfl (ld1 Try.underlying24 rfl (bx1 (hb_.get 1 rfl) rfl rfl))))) (re_cons rfl rfl rfl (qy_val rfl (fun w_ ρ_ hb_ => (r_fieldAddr (v1 := .pointer (some ⟨g5, 0, none⟩)) rfl rfl (fld26_1 _ _)))) re_nil)))))), ?_⟩
      clear hx
      replace B := B.sub (List.sublist_append_right _ _)
      refine ph_nil (fun w ρ N hz hx B hs => ?_)
      replace H := H.step hz
      have hg0 := hx (0, g50) (by simp)
      replace hg0 : ρ 0 = some g50 := hg0
      replace B : Bx w N [⟨g7, 26, #[Sl.v Sl.nil, Sl.v Sl.nil, .int .i64 0]⟩, ⟨g5, 26, #[Sl.v y39.1, Sl.v y39.2.1, .int .i64 y39.2.2]⟩] := by simpa only [flb, List.filterMap_cons, List.filterMap_nil, hg0, Option.map_some, List.cons_append, List.nil_append] using B
      refine WL_frame (f' := updl _ [(33, .slice (some ⟨g50, 0, none⟩) 0 0)]) (wfl_cons hg0 rfl wfl_nil) ?_
      obtain ⟨y52, w2, hr, B, H⟩ := at_run B H
      refine stp (v := Sl.v y52) rfl rfl (r_builtin (vs := [Sl.v y51, Sl.v (y39.2.1.cut 1 (IntKind.i64.wrap (a1 + 1)).toNat (y39.2.1.n : Int).toNat (y39.2.1.c : Int).toNat)]) rfl rfl (fun _ => bi_append hr)) ?_
      clear hr
      refine stp (v := .pointer (some ⟨g5, 1, none⟩)) rfl rfl (r_fieldAddr (v1 := .pointer (some ⟨g5, 0, none⟩)) rfl rfl (fld26_1 _ _)) ?_
      obtain ⟨w2, hr, B, H⟩ := B.st1 H (i := 1) (j := 1) (T := 24) (v := Sl.v y52) (ad := ⟨g5, 1, none⟩) rfl rfl rfl rfl sz24
      refine stp0 rfl rfl (r_store (v1 := .pointer (some ⟨g5, 1, none⟩)) (v2 := Sl.v y52) rfl rfl rfl hr) ?_
      replace B : Bx _ _ [⟨g7, 26, #[Sl.v Sl.nil, Sl.v Sl.nil, .int .i64 0]⟩, ⟨g5, 26, #[Sl.v y39.1, Sl.v y52, .int .i64 y39.2.2]⟩] := B
      clear hr
      refine fin ?_
      refine n40 _ _ ?_
      refine c_seq (fun Q55 n53 o54 => ?_)
      refine c_region ?_
      refine stp (v := .agg #[Sl.v y39.1, Sl.v y52, .int .i64 y39.2.2]) rfl rfl (r_load (v1 := .pointer (some ⟨g5, 0, none⟩)) rfl rfl (bxn (B.get 1 rfl) Try.underlying26 rfl sz26)) ?_
      obtain ⟨w2, hr, B, H⟩ := B.stn H (i := 0) (T := 26) (cs' := #[Sl.v y39.1, Sl.v y52, .int .i64 y39.2.2]) (ad := ⟨g7, 0, none⟩) rfl rfl rfl rfl sz26
      refine stp0 rfl rfl (r_store (v1 := .pointer (some ⟨g7, 0, none⟩)) (v2 := .agg #[Sl.v y39.1, Sl.v y52, .int .i64 y39.2.2]) rfl rfl rfl hr) ?_
      replace B : Bx _ _ [⟨g7, 26, #[Sl.v y39.1, Sl.v y52, .int .i64 y39.2.2]⟩, ⟨g5, 26, #[Sl.v y39.1, Sl.v y52, .int .i64 y39.2.2]⟩] := B
      clear hr
      refine stp (v := .bool true) rfl rfl (r_assign rfl rfl) ?_
      refine fin ?_
      refine n53 _ _ ?_
      refine c_ret ((done (vs := [.agg #[Sl.v y39.1, Sl.v y52, .int .i64 y39.2.2], .bool true]) (.cell rfl (bxn (B.get 0 rfl) Try.underlying26 rfl sz26) (.tmp rfl .nil)) rfl ⟨_, rfl, H.now⟩))
end Go.Proofs.Ytboccoihmginiaa
