/-
The law holds for every input; helper texts: Helper text: what came in, opened: slices, structs, strings, numbers, however deep. Helper text, written by a program of ours: the parameters of the laws, opened. Helper text: FnPictures over opened arguments. The law FnPictures holds for every input. No condition.
-/
import Derived.Test.YtboccoihmginiaaP6
import Derived.WalkKit
import Derived.ProofKit
import Derived.OpenShut
import Derived.ShutString
import Derived.ChangeOld
import Derived.Below
import Derived.Carry
import Derived.Deep.Slices
import Derived.Test.YtboccoihmginiaaRows
import Derived.SizedLaws
namespace Go.Sol
open Go.RowKit Go.ChangeShapes Go.WideShapes
set_option linter.unusedVariables false
set_option linter.unusedSimpArgs false
/-- a value of a type, opened: its cells, and what is known of them -/
structure Opn (P : Program) (t : TypeId) {X : Type} (cells : X → List Value) (ok : World → X → Prop) : Prop where
  out : ∀ (H : Type) (enc : TypeId × Value → H) (w : World) (fuel : Nat) (cs : List Value) (x : DataW H × List MemPlace), DataW.trod enc P w 0 (fun _ => true) true fuel t cs = some x → ∃ y, cs = cells y ∧ ok w y
structure OpnL (P : Program) (fs : List Field) (off tot : Nat) {X : Type} (cells : X → List Value) (ok : World → X → Prop) : Prop where
  out : ∀ (H : Type) (enc : TypeId × Value → H) (w : World) (n : Nat) (cs : List Value), cs.length = off + tot →
    (∀ (i : Nat) (f : Field), fs[i]? = some f → ∃ r, DataW.trod enc P w 0 (fun _ => true) true n f.type ((cs.drop f.offset).take (P.cellsOf f.type)) = some r) → ∃ y, cs.drop off = cells y ∧ ok w y
section
variable {P : Program} {t e : TypeId} {X Y : Type} {cells : X → List Value} {ok : World → X → Prop} {cells2 : Y → List Value} {ok2 : World → Y → Prop}
theorem Opn.int {k : IntKind} (ht : P.underlying t = some (.int k)) : Opn P t (fun n : Int => [.int k n]) (fun _ n => (Lit.int k n).wf = true) := by
  refine ⟨fun H enc w fuel cs x h => ?_⟩
  obtain ⟨n, h1, _, h2⟩ := DataW.trod_int ht h
  exact ⟨n, h1, h2⟩
theorem Opn.bool (ht : P.underlying t = some .bool) : Opn P t (fun b : Bool => [.bool b]) (fun _ _ => True) := by
  refine ⟨fun H enc w fuel cs x h => ?_⟩
  obtain ⟨n, h1, _⟩ := DataW.trod_bool ht h
  exact ⟨n, h1, trivial⟩
theorem flat_get {sz : Nat} (hlen : ∀ y, (cells y).length = sz) : ∀ (ys : List X) (i j : Nat) (v : Value), j < sz → (ys.flatMap cells)[i * sz + j]? = some v → ∃ y, ys[i]? = some y ∧ (cells y)[j]? = some v
  | [], i, j, v, hj, h => by simp at h
  | y :: ys, 0, j, v, hj, h => by
    rw [List.flatMap_cons, Nat.zero_mul, Nat.zero_add, List.getElem?_append_left (by rw [hlen]; exact hj)] at h
    exact ⟨y, rfl, h⟩
  | y :: ys, i + 1, j, v, hj, h => by
    rw [List.flatMap_cons, List.getElem?_append_right (by rw [hlen, Nat.add_mul]; omega), hlen, show (i + 1) * sz + j - sz = i * sz + j by rw [Nat.add_mul]; omega] at h
    obtain ⟨y', h1, h2⟩ := flat_get hlen ys i j v hj h
    exact ⟨y', by simpa using h1, h2⟩
theorem flat_len {sz : Nat} (hlen : ∀ y, (cells y).length = sz) (ys : List X) : (ys.flatMap cells).length = ys.length * sz := by
  induction ys with
  | nil => simp
  | cons y ys ih => rw [List.flatMap_cons, List.length_append, ih, hlen, List.length_cons, Nat.add_mul]; omega
theorem Opn.sli {sz : Nat} (ht : P.underlying t = some (.slice e)) (he : Opn P e cells ok) (hsz : P.cellsOf e = sz) (h0 : 0 < sz) (hlen : ∀ y, (cells y).length = sz) :
    Opn P t (fun p : Sl × List X => [Sl.v p.1]) (fun w p => Rd w sz p.1 (p.2.flatMap cells) ∧ p.1.n = p.2.length ∧ ∀ y ∈ p.2, ok w y) := by
  refine ⟨fun H enc w fuel cs x h => ?_⟩
  rcases Deep.open_slice ht h with ⟨h1, _⟩ | ⟨a, len, cap, m, n, D, Pl, h1, _, hl, hc, hm, _, hx⟩
  · refine ⟨(⟨none, 0, 0⟩, []), h1, ⟨?_, ?_, .inl rfl⟩, rfl, fun _ h => by simp at h⟩
    · simp
    · simp
  · rw [hsz] at hx
    simp only [if_true] at hm
    have hx2 : ∀ i, i < len → ∃ y, w.cells? 0 (a.add (i * sz)) sz = some (cells y) ∧ ok w y := by
      intro i hi
      obtain ⟨cs', h2, h3⟩ := hx i (by omega)
      obtain ⟨y, rfl, hy⟩ := he.out _ enc w n cs' _ h3
      exact ⟨y, h2, hy⟩
    have hl2 : ∀ k, k ≤ len → ∃ ys : List X, ys.length = k ∧ ∀ i y, ys[i]? = some y → w.cells? 0 (a.add (i * sz)) sz = some (cells y) ∧ ok w y := by
      intro k
      induction k with
      | zero => intro _; exact ⟨[], rfl, fun i y h => by simp at h⟩
      | succ k ih =>
        intro hk
        obtain ⟨ys, hy1, hy2⟩ := ih (by omega)
        obtain ⟨y, hy3⟩ := hx2 k (by omega)
        refine ⟨ys ++ [y], by simp [hy1], fun i z hz => ?_⟩
        by_cases hi : i < ys.length
        · rw [List.getElem?_append_left hi] at hz; exact hy2 i z hz
        · rw [List.getElem?_append_right (by omega)] at hz
          have : i = k := by
            have := (List.getElem?_eq_some_iff.1 hz).1
            simp at this; omega
          subst this
          rw [hy1, Nat.sub_self] at hz
          simp at hz
          subst hz
          exact hy3
    obtain ⟨ys, hy1, hy2⟩ := hl2 len (Nat.le_refl _)
    refine ⟨(⟨some a, len, cap⟩, ys), h1, ⟨?_, by simp only; omega, .inr ⟨a, rfl, fun j v hj => ?_⟩⟩, hy1.symm, fun y hy => ?_⟩
    · rw [flat_len hlen, hy1]
    · have hjlt := (List.getElem?_eq_some_iff.1 hj).1
      have hd : j = j / sz * sz + j % sz := by rw [Nat.mul_comm]; exact (Nat.div_add_mod j sz).symm
      rw [hd] at hj
      obtain ⟨y, hi, hv⟩ := flat_get hlen ys _ _ v (Nat.mod_lt _ h0) hj
      have h5 := (World.cells?_some (hy2 _ _ hi).1).2.2 (j % sz) (Nat.mod_lt _ h0)
      rw [Addr.add_add, ← hd] at h5
      rw [h5, hv]
    · obtain ⟨i, hi⟩ := List.getElem?_of_mem hy
      exact (hy2 i y hi).2
theorem OpnL.nil {off : Nat} : OpnL P [] off 0 (fun _ : Unit => []) (fun _ _ => True) := by
  refine ⟨fun H enc w n cs hl _ => ?_⟩
  exact ⟨(), List.drop_of_length_le (by omega), trivial⟩
theorem OpnL.cons {f : Field} {fs : List Field} {off sz tot : Nat} (hf : Opn P f.type cells ok) (ho : f.offset = off) (hsz : P.cellsOf f.type = sz) (hlen : ∀ y, (cells y).length = sz) (hfs : OpnL P fs (off + sz) tot cells2 ok2) :
    OpnL P (f :: fs) off (sz + tot) (fun p : X × Y => cells p.1 ++ cells2 p.2) (fun w p => ok w p.1 ∧ ok2 w p.2) := by
  refine ⟨fun H enc w n cs hl h => ?_⟩
  obtain ⟨r, hr⟩ := h 0 f rfl
  obtain ⟨y, hy, hoy⟩ := hf.out _ enc w n _ _ hr
  obtain ⟨z, hz, hoz⟩ := hfs.out _ enc w n cs (by omega) fun i g hg => h (i + 1) g (by simpa using hg)
  refine ⟨(y, z), ?_, hoy, hoz⟩
  simp only
  rw [← hy, ← hz, ho, hsz, ← List.drop_drop]
  exact (List.take_append_drop sz (cs.drop off)).symm
theorem Opn.struct {fs : Array Field} {tot : Nat} (ht : P.underlying t = some (.struct fs)) (hc : P.cellsOf t = tot) (h : OpnL P fs.toList 0 tot cells ok) : Opn P t cells ok := by
  refine ⟨fun H enc w fuel cs x hx => ?_⟩
  obtain ⟨xs, n, _, _, hl, hxl, hxs⟩ := DataW.trod_struct ht hx
  obtain ⟨y, hy, ho⟩ := h.out _ enc w n cs (by omega) fun i f hf => by
    have hi : i < xs.length := by
      rw [hxl]
      have := (List.getElem?_eq_some_iff.1 hf).1
      simpa using this
    exact ⟨xs[i], by rw [hxs i f (by simpa using hf)]; simp [hi]⟩
  exact ⟨y, by simpa using hy, ho⟩
end
/-- an argument that is a struct -/
theorem Opn.agg {P : Program} {t : TypeId} {X : Type} {cells : X → List Value} {ok : World → X → Prop} (h : Opn P t cells ok) {fs : Array Field} (ht : P.underlying t = some (.struct fs)) {w : World} {r : Reach} {b0 : Nat} {v : Value} {H : Type} {enc : TypeId × Value → H}
    {d : DataW H} {ps : List MemPlace} (hv : Value.okWide P w r b0 t v) (hd : DataW.Trod enc P w 0 (fun _ => true) true t v d ps) : ∃ y, v = .agg (cells y).toArray ∧ ok w y := by
  simp only [Value.okWide, ht] at hv
  obtain ⟨cs, rfl, _, _⟩ := hv
  obtain ⟨fuel, hf⟩ := hd
  obtain ⟨y, hy, ho⟩ := h.out _ enc w fuel _ _ hf
  refine ⟨y, ?_, ho⟩
  rw [← hy]
  rfl
theorem Opn.arg {P : Program} {t e : TypeId} {X : Type} {ok : World → Sl × X → Prop} (h : Opn P t (fun p : Sl × X => [Sl.v p.1]) ok) (ht : P.underlying t = some (.slice e)) {w : World} {r : Reach} {b0 : Nat} {v : Value} {H : Type} {enc : TypeId × Value → H}
    {d : DataW H} {ps : List MemPlace} (hv : Value.okWide P w r b0 t v) (hd : DataW.Trod enc P w 0 (fun _ => true) true t v d ps) : ∃ y : Sl × X, v = Sl.v y.1 ∧ ok w y := by
  obtain ⟨a, l, c, rfl⟩ := okWide_slice ht hv
  obtain ⟨fuel, hf⟩ := hd
  obtain ⟨y, hy, ho⟩ := h.out _ enc w fuel _ _ hf
  exact ⟨y, by simpa [Value.cells] using hy, ho⟩
end Go.Sol

namespace Go.Proofs.Ytboccoihmginiaa
open Go.RowKit Go.Sol
set_option linter.unusedVariables false
abbrev X5 : Type := Int
abbrev c5 : X5 → List Value := fun n => [.int .u8 n]
abbrev k5 : World → X5 → Prop := fun _ n => (Lit.int .u8 n).wf = true
theorem opn5 : Opn Try.prog 5 c5 k5 := Opn.int Try.underlying5
abbrev X22 : Type := Sl × List X5
abbrev c22 : X22 → List Value := fun p => [Sl.v p.1]
abbrev k22 : World → X22 → Prop := fun w p => Rd w 1 p.1 (p.2.flatMap c5) ∧ p.1.n = p.2.length ∧ ∀ y ∈ p.2, k5 w y
theorem opn22 : Opn Try.prog 22 c22 k22 := Opn.sli Try.underlying22 opn5 (by kernel_rfl) (by decide) (fun _ => rfl)
abbrev X3 : Type := Int
abbrev c3 : X3 → List Value := fun n => [.int .i64 n]
abbrev k3 : World → X3 → Prop := fun _ n => (Lit.int .i64 n).wf = true
end Go.Proofs.Ytboccoihmginiaa

namespace Go.Proofs.Ytboccoihmginiaa
open Go.RowKit Go.Sol
set_option linter.unusedVariables false
set_option linter.unusedSimpArgs false
theorem flat_u8s (xs : List Int) : xs.flatMap c5 = u8s xs := by
  induction xs with
  | nil => rfl
  | cons x xs ih => rw [List.flatMap_cons, ih]; rfl
theorem walk_Pictures (W : World) (y : X22) (o : k22 W y) : Calls Try.prog 3 #[Sl.v y.1] W fun e w' => e = .returned (.bool true) ∧ Below W.heap.size W w' := by
  obtain ⟨h1, _, h2⟩ := o
  rw [flat_u8s] at h1
  refine pict_ok h1 fun x hx => ?_
  have := h2 x hx
  simp only [k5, Lit.wf, IntKind.min, IntKind.max, IntKind.bits, IntKind.signed] at this
  simp at this
  omega
end Go.Proofs.Ytboccoihmginiaa

namespace Go.Proofs.Ytboccoihmginiaa.fnPictures
open Go.ChangeShapes Go.WideShapes Go.ChangeAt Go.RowKit Go.Sol
open Go.ChangeMaps (open_string shut_string)
set_option linter.unusedVariables false
theorem own : ownKnob Try.prog.godebug = none := by kernel_rfl
theorem laidOut : laidOutB Try.prog = true := by kernel_rfl
set_option maxRecDepth 100000 in
theorem lifted (os : Os) (started : os.Started) (H : Type) (enc : TypeId × Value → H) :
    ReturnsInHanded {} Try.checked os 3 .any (Rows.fnPicturesSpec.pre6 enc Try.prog Try.f3 Rows.fnPicturesRow.domain false) (Rows.fnPicturesSpec.post enc Try.prog Try.f3 false true false false) := by
  refine returnsInHanded_of_change_sized (C := Try.checked) own started (by kernel_rfl) Try.func3
    (ChangeSpec.witness6 (enc := enc) (C := Try.checked) false ⟨#[], #[.slice none 0 0], []⟩ 8 (by kernel_rfl) (by kernel_rfl) (by kernel_rfl) (by kernel_rfl)) ?_
  intro W base args ds gs before hval0 hW hcnd hsz0 _
  have hsz : (DataW.weightsEach Try.prog (Try.f3.params.toList ++ Rows.fnPicturesSpec.plain.varTypes Try.prog) (ds ++ gs)).all (· ≤ reachBytes) = true := hsz0
  have hval : ∀ (j : Nat) t v, Try.f3.params[j]? = some t → args[j]? = some v → Value.okWide Try.prog W .any base t v := hval0
  have hW2 := hW
  obtain ⟨p, q, hA0, hV, rfl, hfz, hnd⟩ := hW
  have hA : DataW.TrodAll enc Try.prog W 0 (fun _ => true) true Try.f3.params.toList args.toList ds p := hA0
  rw [Try.params3] at hA hval hsz
  obtain ⟨v0, vs0, d0, ds0, p0, q0, hargs, rfl, rfl, h0, r0⟩ := trodAll_cons hA
  obtain ⟨rfl, rfl, rfl⟩ := trodAll_nil r0
  obtain rfl : args = #[v0] := by cases args; simp_all
  obtain ⟨rfl, rfl⟩ := trodVars_none hV
  have k0 := h0
  have lt0 : ∀ x ∈ p0, x.block < W.heap.size := by obtain ⟨m, hm⟩ := k0; exact DataW.trod_lt m _ _ _ hm
  obtain ⟨y0, rfl, o0⟩ := opn22.arg Try.underlying22 (hval 0 22 v0 rfl rfl) h0
  clear hA0 hval0 hsz0 hsz
  refine (walk_Pictures W y0 o0).mono fun e W2 ⟨he, bel⟩ => ?_
  subst he
  exact ⟨_, rfl, _, _, _, [], _, [], hW2, trodAll_mk1 (shut_bool Try.underlying4 _), (trodAll_cons_mk (Below.trod laidOut (by kernel_rfl) (of_decide_eq_true (by kernel_rfl)) k0 bel lt0) trodAll_mk0), rfl, bel.frame _, fun h => by cases h⟩
theorem over : Rows.fnPicturesRow.holds Try.pinned (OpenSpec.ofChange Rows.fnPicturesSpec) :=
  OpenClaim.holds_of_wide 3 Try.f3 rfl rfl rfl rfl rfl rfl rfl ⟨rfl, rfl, rfl, rfl, rfl⟩ rfl rfl rfl rfl rfl (by kernel_rfl) Try.func3 (by kernel_rfl)
    (of_decide_eq_true (by kernel_rfl)) (by unfold Func.isWrapper; first | (rw [if_pos (by decide +kernel)]; kernel_rfl) | (rw [if_neg (by decide +kernel)]; exact ⟨rfl, rfl⟩))
    (fun os started H enc _ => lifted os started H enc)
end Go.Proofs.Ytboccoihmginiaa.fnPictures
namespace Go.Proofs.Ytboccoihmginiaa
theorem fnPictures_holds : Rows.FnPicturesSaid := fnPictures.over
end Go.Proofs.Ytboccoihmginiaa
