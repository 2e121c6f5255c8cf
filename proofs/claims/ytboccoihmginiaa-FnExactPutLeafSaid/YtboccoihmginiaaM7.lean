/-
The law holds for every input; helper texts: Helper text: what came in, opened: slices, structs, strings, numbers, however deep. Helper text, written by a program of ours: the parameters of the laws, opened. Helper text: FnExactPutLeaf over opened arguments. The law FnExactPutLeaf holds for every input. No condition.
-/
import Derived.Test.YtboccoihmginiaaM6
import Derived.WalkKit
import Derived.ProofKit
import Derived.OpenShut
import Derived.ShutString
import Derived.ChangeOld
import Derived.Below
import Derived.Carry
import Derived.Deep.Slices
import Derived.Test.YtboccoihmginiaaRows
import Derived.SizedLaws
namespace Go.Sol
open Go.RowKit Go.ChangeShapes Go.WideShapes
set_option linter.unusedVariables false
set_option linter.unusedSimpArgs false

/-- a value of a type, opened: its cells, and what is known of them -/
structure Opn (P : Program) (t : TypeId) {X : Type} (cells : X → List Value) (ok : World → X → Prop) : Prop where
  out : ∀ (H : Type) (enc : TypeId × Value → H) (w : World) (fuel : Nat) (cs : List Value) (x : DataW H × List MemPlace), DataW.trod enc P w 0 (fun _ => true) true fuel t cs = some x → ∃ y, cs = cells y ∧ ok w y
structure OpnL (P : Program) (fs : List Field) (off tot : Nat) {X : Type} (cells : X → List Value) (ok : World → X → Prop) : Prop where
  out : ∀ (H : Type) (enc : TypeId × Value → H) (w : World) (n : Nat) (cs : List Value), cs.length = off + tot →
    (∀ (i : Nat) (f : Field), fs[i]? = some f → ∃ r, DataW.trod enc P w 0 (fun _ => true) true n f.type ((cs.drop f.offset).take (P.cellsOf f.type)) = some r) → ∃ y, cs.drop off = cells y ∧ ok w y
section
variable {P : Program} {t e : TypeId} {X Y : Type} {cells : X → List Value} {ok : World → X → Prop} {cells2 : Y → List Value} {ok2 : World → Y → Prop}
theorem Opn.int {k : IntKind} (ht : P.underlying t = some (.int k)) : Opn P t (fun n : Int => [.int k n]) (fun _ n => (Lit.int k n).wf = true) := by
  refine ⟨fun H enc w fuel cs x h => ?_⟩
  obtain ⟨n, h1, _, h2⟩ := DataW.trod_int ht h
  exact ⟨n, h1, h2⟩
theorem Opn.bool (ht : P.underlying t = some .bool) : Opn P t (fun b : Bool => [.bool b]) (fun _ _ => True) := by
  refine ⟨fun H enc w fuel cs x h => ?_⟩
  obtain ⟨n, h1, _⟩ := DataW.trod_bool ht h
  exact ⟨n, h1, trivial⟩
theorem Opn.str (ht : P.underlying t = some .string) : Opn P t (fun s : ByteArray => [.string s]) (fun _ s => s.size ≤ maxLen) := by
  refine ⟨fun H enc w fuel cs x h => ?_⟩
  obtain ⟨n, h1, _, h2⟩ := DataW.trod_string ht h
  exact ⟨n, h1, h2⟩
theorem flat_get {sz : Nat} (hlen : ∀ y, (cells y).length = sz) : ∀ (ys : List X) (i j : Nat) (v : Value), j < sz → (ys.flatMap cells)[i * sz + j]? = some v → ∃ y, ys[i]? = some y ∧ (cells y)[j]? = some v
  | [], i, j, v, hj, h => by simp at h
  | y :: ys, 0, j, v, hj, h => by
    rw [List.flatMap_cons, Nat.zero_mul, Nat.zero_add, List.getElem?_append_left (by rw [hlen]; exact hj)] at h
    exact ⟨y, rfl, h⟩
  | y :: ys, i + 1, j, v, hj, h => by
    rw [List.flatMap_cons, List.getElem?_append_right (by rw [hlen, Nat.add_mul]; omega), hlen, show (i + 1) * sz + j - sz = i * sz + j by rw [Nat.add_mul]; omega] at h
    obtain ⟨y', h1, h2⟩ := flat_get hlen ys i j v hj h
    exact ⟨y', by simpa using h1, h2⟩
theorem flat_len {sz : Nat} (hlen : ∀ y, (cells y).length = sz) (ys : List X) : (ys.flatMap cells).length = ys.length * sz := by
  induction ys with
  | nil => simp
  | cons y ys ih => rw [List.flatMap_cons, List.length_append, ih, hlen, List.length_cons, Nat.add_mul]; omega
theorem Opn.sli {sz : Nat} (ht : P.underlying t = some (.slice e)) (he : Opn P e cells ok) (hsz : P.cellsOf e = sz) (h0 : 0 < sz) (hlen : ∀ y, (cells y).length = sz) :
    Opn P t (fun p : Sl × List X => [Sl.v p.1]) (fun w p => Rd w sz p.1 (p.2.flatMap cells) ∧ p.1.n = p.2.length ∧ ∀ y ∈ p.2, ok w y) := by
  refine ⟨fun H enc w fuel cs x h => ?_⟩
  rcases Deep.open_slice ht h with ⟨h1, _⟩ | ⟨a, len, cap, m, n, D, Pl, h1, _, hl, hc, hm, _, hx⟩
  · refine ⟨(⟨none, 0, 0⟩, []), h1, ⟨?_, ?_, .inl rfl⟩, rfl, fun _ h => by simp at h⟩
    · simp
    · simp
  · rw [hsz] at hx
    simp only [if_true] at hm
    have hx2 : ∀ i, i < len → ∃ y, w.cells? 0 (a.add (i * sz)) sz = some (cells y) ∧ ok w y := by
      intro i hi
      obtain ⟨cs', h2, h3⟩ := hx i (by omega)
      obtain ⟨y, rfl, hy⟩ := he.out _ enc w n cs' _ h3
      exact ⟨y, h2, hy⟩
    have hl2 : ∀ k, k ≤ len → ∃ ys : List X, ys.length = k ∧ ∀ i y, ys[i]? = some y → w.cells? 0 (a.add (i * sz)) sz = some (cells y) ∧ ok w y := by
      intro k
      induction k with
      | zero => intro _; exact ⟨[], rfl, fun i y h => by simp at h⟩
      | succ k ih =>
        intro hk
        obtain ⟨ys, hy1, hy2⟩ := ih (by omega)
        obtain ⟨y, hy3⟩ := hx2 k (by omega)
        refine ⟨ys ++ [y], by simp [hy1], fun i z hz => ?_⟩
        by_cases hi : i < ys.length
        · rw [List.getElem?_append_left hi] at hz; exact hy2 i z hz
        · rw [List.getElem?_append_right (by omega)] at hz
          have : i = k := by
            have := (List.getElem?_eq_some_iff.1 hz).1
            simp at this; omega
          subst this
          rw [hy1, Nat.sub_self] at hz
          simp at hz
          subst hz
          exact hy3
    obtain ⟨ys, hy1, hy2⟩ := hl2 len (Nat.le_refl _)
    refine ⟨(⟨some a, len, cap⟩, ys), h1, ⟨?_, by simp only; omega, .inr ⟨a, rfl, fun j v hj => ?_⟩⟩, hy1.symm, fun y hy => ?_⟩
    · rw [flat_len hlen, hy1]
    · have hjlt := (List.getElem?_eq_some_iff.1 hj).1
      have hd : j = j / sz * sz + j % sz := by rw [Nat.mul_comm]; exact (Nat.div_add_mod j sz).symm
      rw [hd] at hj
      obtain ⟨y, hi, hv⟩ := flat_get hlen ys _ _ v (Nat.mod_lt _ h0) hj
      have h5 := (World.cells?_some (hy2 _ _ hi).1).2.2 (j % sz) (Nat.mod_lt _ h0)
      rw [Addr.add_add, ← hd] at h5
      rw [h5, hv]
    · obtain ⟨i, hi⟩ := List.getElem?_of_mem hy
      exact (hy2 i y hi).2
theorem OpnL.nil {off : Nat} : OpnL P [] off 0 (fun _ : Unit => []) (fun _ _ => True) := by
  refine ⟨fun H enc w n cs hl _ => ?_⟩
  exact ⟨(), List.drop_of_length_le (by omega), trivial⟩
theorem OpnL.cons {f : Field} {fs : List Field} {off sz tot : Nat} (hf : Opn P f.type cells ok) (ho : f.offset = off) (hsz : P.cellsOf f.type = sz) (hlen : ∀ y, (cells y).length = sz) (hfs : OpnL P fs (off + sz) tot cells2 ok2) :
    OpnL P (f :: fs) off (sz + tot) (fun p : X × Y => cells p.1 ++ cells2 p.2) (fun w p => ok w p.1 ∧ ok2 w p.2) := by
  refine ⟨fun H enc w n cs hl h => ?_⟩
  obtain ⟨r, hr⟩ := h 0 f rfl
  obtain ⟨y, hy, hoy⟩ := hf.out _ enc w n _ _ hr
  obtain ⟨z, hz, hoz⟩ := hfs.out _ enc w n cs (by omega) fun i g hg => h (i + 1) g (by simpa using hg)
  refine ⟨(y, z), ?_, hoy, hoz⟩
  simp only
  rw [← hy, ← hz, ho, hsz, ← List.drop_drop]
  exact (List.take_append_drop sz (cs.drop off)).symm
theorem Opn.struct {fs : Array Field} {tot : Nat} (ht : P.underlying t = some (.struct fs)) (hc : P.cellsOf t = tot) (h : OpnL P fs.toList 0 tot cells ok) : Opn P t cells ok := by
  refine ⟨fun H enc w fuel cs x hx => ?_⟩
  obtain ⟨xs, n, _, _, hl, hxl, hxs⟩ := DataW.trod_struct ht hx
  obtain ⟨y, hy, ho⟩ := h.out _ enc w n cs (by omega) fun i f hf => by
    have hi : i < xs.length := by
      rw [hxl]
      have := (List.getElem?_eq_some_iff.1 hf).1
      simpa using this
    exact ⟨xs[i], by rw [hxs i f (by simpa using hf)]; simp [hi]⟩
  exact ⟨y, by simpa using hy, ho⟩
end
/-- an argument that is a struct -/
theorem Opn.agg {P : Program} {t : TypeId} {X : Type} {cells : X → List Value} {ok : World → X → Prop} (h : Opn P t cells ok) {fs : Array Field} (ht : P.underlying t = some (.struct fs)) {w : World} {r : Reach} {b0 : Nat} {v : Value} {H : Type} {enc : TypeId × Value → H}
    {d : DataW H} {ps : List MemPlace} (hv : Value.okWide P w r b0 t v) (hd : DataW.Trod enc P w 0 (fun _ => true) true t v d ps) : ∃ y, v = .agg (cells y).toArray ∧ ok w y := by
  simp only [Value.okWide, ht] at hv
  obtain ⟨cs, rfl, _, _⟩ := hv
  obtain ⟨fuel, hf⟩ := hd
  obtain ⟨y, hy, ho⟩ := h.out _ enc w fuel _ _ hf
  refine ⟨y, ?_, ho⟩
  rw [← hy]
  rfl
theorem Opn.arg {P : Program} {t e : TypeId} {X : Type} {ok : World → Sl × X → Prop} (h : Opn P t (fun p : Sl × X => [Sl.v p.1]) ok) (ht : P.underlying t = some (.slice e)) {w : World} {r : Reach} {b0 : Nat} {v : Value} {H : Type} {enc : TypeId × Value → H}
    {d : DataW H} {ps : List MemPlace} (hv : Value.okWide P w r b0 t v) (hd : DataW.Trod enc P w 0 (fun _ => true) true t v d ps) : ∃ y : Sl × X, v = Sl.v y.1 ∧ ok w y := by
  obtain ⟨a, l, c, rfl⟩ := okWide_slice ht hv
  obtain ⟨fuel, hf⟩ := hd
  obtain ⟨y, hy, ho⟩ := h.out _ enc w fuel _ _ hf
  exact ⟨y, by simpa [Value.cells] using hy, ho⟩
end Go.Sol

namespace Go.Proofs.Ytboccoihmginiaa
open Go.RowKit Go.Sol
set_option linter.unusedVariables false
abbrev X5 : Type := Int
abbrev c5 : X5 → List Value := fun n => [.int .u8 n]
abbrev k5 : World → X5 → Prop := fun _ n => (Lit.int .u8 n).wf = true
theorem opn5 : Opn Try.prog 5 c5 k5 := Opn.int Try.underlying5

abbrev X22 : Type := Sl × List X5
abbrev c22 : X22 → List Value := fun p => [Sl.v p.1]
abbrev k22 : World → X22 → Prop := fun w p => Rd w 1 p.1 (p.2.flatMap c5) ∧ p.1.n = p.2.length ∧ ∀ y ∈ p.2, k5 w y
theorem opn22 : Opn Try.prog 22 c22 k22 := Opn.sli Try.underlying22 opn5 (by kernel_rfl) (by decide) (fun _ => rfl)

abbrev X3 : Type := Int
abbrev c3 : X3 → List Value := fun n => [.int .i64 n]
abbrev k3 : World → X3 → Prop := fun _ n => (Lit.int .i64 n).wf = true
theorem opn3 : Opn Try.prog 3 c3 k3 := Opn.int Try.underlying3

abbrev X9 : Type := ByteArray
abbrev c9 : X9 → List Value := fun s => [.string s]
abbrev k9 : World → X9 → Prop := fun _ s => s.size ≤ maxLen
theorem opn9 : Opn Try.prog 9 c9 k9 := Opn.str Try.underlying9

abbrev X24 : Type := Sl × List X3
abbrev c24 : X24 → List Value := fun p => [Sl.v p.1]
abbrev k24 : World → X24 → Prop := fun w p => Rd w 1 p.1 (p.2.flatMap c3) ∧ p.1.n = p.2.length ∧ ∀ y ∈ p.2, k3 w y
theorem opn24 : Opn Try.prog 24 c24 k24 := Opn.sli Try.underlying24 opn3 (by kernel_rfl) (by decide) (fun _ => rfl)

abbrev X87 : Type := X3 × X9 × X24 × Unit
abbrev c87 : X87 → List Value := fun p => c3 p.1 ++ (c9 p.2.1 ++ (c24 p.2.2.1 ++ []))
abbrev k87 : World → X87 → Prop := fun w p => k3 w p.1 ∧ k9 w p.2.1 ∧ k24 w p.2.2.1 ∧ True
theorem opn87 : Opn Try.prog 87 c87 k87 := Opn.struct Try.underlying87 (by kernel_rfl) (OpnL.cons opn3 rfl (sz := 1) (by kernel_rfl) (fun _ => rfl) (OpnL.cons opn9 rfl (sz := 1) (by kernel_rfl) (fun _ => rfl) (OpnL.cons opn24 rfl (sz := 1) (by kernel_rfl) (fun _ => rfl) OpnL.nil)))

abbrev X40 : Type := Sl × List X87
abbrev c40 : X40 → List Value := fun p => [Sl.v p.1]
abbrev k40 : World → X40 → Prop := fun w p => Rd w 3 p.1 (p.2.flatMap c87) ∧ p.1.n = p.2.length ∧ ∀ y ∈ p.2, k87 w y
theorem opn40 : Opn Try.prog 40 c40 k40 := Opn.sli Try.underlying40 opn87 (by kernel_rfl) (by decide) (fun _ => rfl)

abbrev X42 : Type := X40 × X24 × X3 × Unit
abbrev c42 : X42 → List Value := fun p => c40 p.1 ++ (c24 p.2.1 ++ (c3 p.2.2.1 ++ []))
abbrev k42 : World → X42 → Prop := fun w p => k40 w p.1 ∧ k24 w p.2.1 ∧ k3 w p.2.2.1 ∧ True
theorem opn42 : Opn Try.prog 42 c42 k42 := Opn.struct Try.underlying42 (by kernel_rfl) (OpnL.cons opn40 rfl (sz := 1) (by kernel_rfl) (fun _ => rfl) (OpnL.cons opn24 rfl (sz := 1) (by kernel_rfl) (fun _ => rfl) (OpnL.cons opn3 rfl (sz := 1) (by kernel_rfl) (fun _ => rfl) OpnL.nil)))

end Go.Proofs.Ytboccoihmginiaa

namespace Go.Proofs.Ytboccoihmginiaa
open Go.RowKit Go.Sol
set_option linter.unusedVariables false
set_option linter.unusedSimpArgs false

theorem flat_ints (xs : List Int) : xs.flatMap c3 = ints xs := by
  induction xs with
  | nil => rfl
  | cons x xs ih => rw [List.flatMap_cons, ih]; rfl
def gcOf (p : X87) : GC := (⟨p.1, p.2.1, p.2.2.1.2⟩, p.2.2.1.1)
theorem flat_cells (ps : List X87) : ps.flatMap c87 = cellsV (ps.map gcOf) := by
  induction ps with
  | nil => rfl
  | cons p ps ih => rw [List.flatMap_cons, ih]; rfl
theorem rw_of {w : World} {y : X42} (o : k42 w y) : RW w y.1.1 y.2.1.1 (y.1.2.map gcOf) y.2.1.2 := by
  obtain ⟨⟨h1, h2, h3⟩, ⟨h4, _⟩, _⟩ := o
  refine ⟨⟨?_, ?_⟩, ?_⟩
  · rw [← flat_cells]; exact h1
  · intro g hg
    obtain ⟨p, hp, rfl⟩ := List.mem_map.1 hg
    have := (h3 p hp).2.2.1.1
    rw [flat_ints] at this
    exact this
  · rw [← flat_ints]; exact h4
theorem walk_PutLeaf (W : World) (y : X42) (a1 a2 : Int) (a3 : ByteArray) (o : k42 W y) (w1 : (Lit.int .i64 a1).wf = true) (w2 : (Lit.int .i64 a2).wf = true) (w3 : a3.size ≤ maxLen) :
    Calls Try.prog 4 #[.agg (c42 y).toArray, .int .i64 a1, .int .i64 a2, .string a3] W fun e w' => e = .returned (.bool true) ∧ Below W.heap.size W w' :=
  exact_ok (rw_of o) fun g hg => by
    obtain ⟨p, hp, rfl⟩ := List.mem_map.1 hg
    exact (o.1.2.2 p hp).2.1
end Go.Proofs.Ytboccoihmginiaa

namespace Go.Proofs.Ytboccoihmginiaa.fnExactPutLeaf
open Go.ChangeShapes Go.WideShapes Go.ChangeAt Go.RowKit Go.Sol
open Go.ChangeMaps (open_string shut_string)
set_option linter.unusedVariables false
theorem own : ownKnob Try.prog.godebug = none := by kernel_rfl
theorem laidOut : laidOutB Try.prog = true := by kernel_rfl
set_option maxRecDepth 100000 in
theorem lifted (os : Os) (started : os.Started) (H : Type) (enc : TypeId × Value → H) :
    ReturnsInHanded {} Try.checked os 4 .any (Rows.fnExactPutLeafSpec.pre6 enc Try.prog Try.f4 Rows.fnExactPutLeafRow.domain false) (Rows.fnExactPutLeafSpec.post enc Try.prog Try.f4 false true false false) := by
  refine returnsInHanded_of_change_sized (C := Try.checked) own started (by kernel_rfl) Try.func4
    (ChangeSpec.witness6 (enc := enc) (C := Try.checked) false ⟨#[], #[.agg #[.slice none 0 0, .slice none 0 0, .int .i64 0], .int .i64 0, .int .i64 0, .string ByteArray.empty], []⟩ 8 (by kernel_rfl) (by kernel_rfl) (by kernel_rfl) (by kernel_rfl)) ?_
  intro W base args ds gs before hval0 hW hcnd hsz0 _
  have hsz : (DataW.weightsEach Try.prog (Try.f4.params.toList ++ Rows.fnExactPutLeafSpec.plain.varTypes Try.prog) (ds ++ gs)).all (· ≤ reachBytes) = true := hsz0
  have hval : ∀ (j : Nat) t v, Try.f4.params[j]? = some t → args[j]? = some v → Value.okWide Try.prog W .any base t v := hval0
  have hW2 := hW
  obtain ⟨p, q, hA0, hV, rfl, hfz, hnd⟩ := hW
  have hA : DataW.TrodAll enc Try.prog W 0 (fun _ => true) true Try.f4.params.toList args.toList ds p := hA0
  rw [Try.params4] at hA hval hsz
  obtain ⟨v0, vs0, d0, ds0, p0, q0, hargs, rfl, rfl, h0, r0⟩ := trodAll_cons hA
  obtain ⟨v1, vs1, d1, ds1, p1, q1, rfl, rfl, rfl, h1, r1⟩ := trodAll_cons r0
  obtain ⟨v2, vs2, d2, ds2, p2, q2, rfl, rfl, rfl, h2, r2⟩ := trodAll_cons r1
  obtain ⟨v3, vs3, d3, ds3, p3, q3, rfl, rfl, rfl, h3, r3⟩ := trodAll_cons r2
  obtain ⟨rfl, rfl, rfl⟩ := trodAll_nil r3
  obtain rfl : args = #[v0, v1, v2, v3] := by cases args; simp_all
  obtain ⟨rfl, rfl⟩ := trodVars_none hV
  have k0 := h0
  have lt0 : ∀ x ∈ p0, x.block < W.heap.size := by obtain ⟨m, hm⟩ := k0; exact DataW.trod_lt m _ _ _ hm
  obtain ⟨y0, rfl, o0⟩ := opn42.agg Try.underlying42 (hval 0 42 v0 rfl rfl) h0
  obtain ⟨a1, rfl, rfl, rfl, w1⟩ := open_int Try.underlying3 (hval 1 3 v1 rfl rfl) h1
  obtain ⟨a2, rfl, rfl, rfl, w2⟩ := open_int Try.underlying3 (hval 2 3 v2 rfl rfl) h2
  obtain ⟨a3, rfl, rfl, rfl, w3⟩ := open_string Try.underlying9 (hval 3 9 v3 rfl rfl) h3
  clear hA0 hval0 hsz0 hsz
  refine (walk_PutLeaf W y0 a1 a2 a3 o0 w1 w2 w3).mono fun e W2 ⟨he, bel⟩ => ?_
  subst he
  exact ⟨_, rfl, _, _, _, [], _, [], hW2, trodAll_mk1 (shut_bool Try.underlying4 _), (trodAll_cons_mk (Below.trod laidOut (by kernel_rfl) (of_decide_eq_true (by kernel_rfl)) k0 bel lt0) (trodAll_cons_mk (shut_int Try.underlying3 w1) (trodAll_cons_mk (shut_int Try.underlying3 w2) (trodAll_cons_mk (shut_string Try.underlying9 w3) trodAll_mk0)))), rfl, bel.frame _, fun h => by cases h⟩
theorem over : Rows.fnExactPutLeafRow.holds Try.pinned (OpenSpec.ofChange Rows.fnExactPutLeafSpec) :=
  OpenClaim.holds_of_wide 4 Try.f4 rfl rfl rfl rfl rfl rfl rfl ⟨rfl, rfl, rfl, rfl, rfl⟩ rfl rfl rfl rfl rfl (by kernel_rfl) Try.func4 (by kernel_rfl)
    (of_decide_eq_true (by kernel_rfl)) (by unfold Func.isWrapper; first | (rw [if_pos (by decide +kernel)]; kernel_rfl) | (rw [if_neg (by decide +kernel)]; exact ⟨rfl, rfl⟩))
    (fun os started H enc _ => lifted os started H enc)
end Go.Proofs.Ytboccoihmginiaa.fnExactPutLeaf
namespace Go.Proofs.Ytboccoihmginiaa
theorem fnExactPutLeaf_holds : Rows.FnExactPutLeafSaid := fnExactPutLeaf.over
end Go.Proofs.Ytboccoihmginiaa
