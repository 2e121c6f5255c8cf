/-
Helper texts: Helper text: a small program logic over the walk's rules (boxes of a call's own, noise, steps). Helper text: the steps of a walk as lemmas over frames that are functions; what a call does, told as a predicate on worlds. Helper text: code, loops, joins, loads and stores of boxes and of shared memory, results. Helper text: more steps of a walk: regions whose order is open and that only read, slices, strings, maps, function values. Helper text: a region whose order is open: operations that only read float, those that act keep their order, boxes may be made at any time, and a tail comes last. Helper text: the law on a region whose order is open. Helper text: steps within a region whose order is open. Helper text, written by a program of ours (gen.py): what Go functions do, as predicates on worlds. No condition.
-/
import Derived.WalkKit
import Derived.KernelRfl
import Derived.Deep.QuietTactic
import Derived.BigQuiet
import Derived.Deep.LoopGhost
import Derived.Great.BuildSlice
import Derived.Deep.MidRow
import Derived.WalkSpells
import Derived.WalkLawsBesides
import Derived.Carry
import Derived.Deep.Quiet
import Derived.Test.YtboccoihmginiaaProg
namespace Go.Sol
open Go.RowKit
def upd (f : Nat → Value) (d : Nat) (v : Value) : Nat → Value := fun i => bif Nat.beq i d then v else f i
def fr (n : Nat) (f : Nat → Value) : Array Value := Array.ofFn (n := n) fun i => f i.val
abbrev A (n : Nat) (f : Nat → Value) : Act := ⟨fr n f, []⟩
def ev (n : Nat) (f : Nat → Value) : Operand → Value
  | .tmp t => bif Nat.blt t n then f t else undef
  | .const v => v
  | .global g => .pointer (some ⟨g, 0, none⟩)
  | .func g => .func (.func g) #[] #[]
theorem getD_fr (n : Nat) (f : Nat → Value) (t : Nat) : (fr n f).getD t undef = bif Nat.blt t n then f t else undef := by
  unfold fr
  by_cases h : t < n
  · have h2 : Nat.blt t n = true := by simpa using h
    simp [h, h2]
  · have h2 : Nat.blt t n = false := by
      cases hb : Nat.blt t n with
      | false => rfl
      | true => exact absurd (by simpa using hb) h
    simp [h, h2]
theorem A_eval (n : Nat) (f : Nat → Value) (x : Operand) : (A n f).eval x = ev n f x := by
  cases x with
  | tmp t => exact getD_fr n f t
  | const v => rfl
  | global g => rfl
  | func g => rfl
theorem A_put (n : Nat) (f : Nat → Value) (d : Nat) (v : Value) : (A n f).put (some d) v = A n (upd f d v) := by
  unfold Act.put A
  simp only
  congr 1
  unfold fr
  apply Array.ext
  · simp
  · intro i h1 h2
    simp only [Array.size_setIfInBounds, Array.size_ofFn] at h1
    simp only [Array.getElem_ofFn]
    rw [Array.getElem_setIfInBounds (by simpa using h1)]
    simp only [upd]
    by_cases h : d = i
    · subst h; simp
    · have : Nat.beq i d = false := by
        cases hb : Nat.beq i d with
        | false => rfl
        | true => exact absurd (Nat.eq_of_beq_eq_true hb).symm h
      simp [h, this]
theorem enter {P : Program} {k : FuncId} {fn : Func} {c : Code} {args : List Value} {w : World} {R : Ending → World → Prop} (n : Nat) (hf : P.funcs[k]? = some fn) (hb : fn.body = some c)
    (hn : fn.ntmps = n) (hl : Nat.ble args.length n = true)
    (h : c.wp P (bodyPost P fn R) (A n (fun i => args.getD i undef)) w) : Calls P k args.toArray w R := by
  subst hn
  have hl' : args.length ≤ fn.ntmps := by simpa using hl
  refine calls_of_wp hf hb ?_
  have : (args.toArray ++ Array.replicate (fn.ntmps - args.toArray.size) undef) = fr fn.ntmps (fun i => args.getD i undef) := by
    unfold fr
    apply Array.ext
    · simp; omega
    · intro i h1 h2
      simp only [Array.getElem_ofFn]
      rw [Array.getElem_append]
      split
      · rename_i h3
        simp at h3
        simp [List.getD, h3]
      · rename_i h3
        simp at h3
        simp [List.getD, List.getElem?_eq_none h3]
  rw [this]
  exact h
abbrev NP := Nat → Prop
abbrev Tm := World → NP → Prop
structure Nz (w : World) (N : NP) (w' : World) (N' : NP) : Prop where
  os : w'.os = w.os
  tape : w'.tape = w.tape
  output : w'.output = w.output
  size : w.heap.size ≤ w'.heap.size
  keep : ∀ b, b < w.heap.size → ¬ N b → w'.heap[b]? = w.heap[b]?
  priv : ∀ b, N' b → N b ∨ w.heap.size ≤ b
def Aft (w : World) (N : NP) (k : Tm) : Prop := ∀ w' N', Nz w N w' N' → k w' N'
theorem Nz.refl (w : World) (N : NP) : Nz w N w N := ⟨rfl, rfl, rfl, Nat.le_refl _, fun _ _ _ => rfl, fun _ h => .inl h⟩
theorem Nz.trans {w w1 w2 : World} {N N1 N2 : NP} (h : Nz w N w1 N1) (k : Nz w1 N1 w2 N2) : Nz w N w2 N2 :=
  ⟨k.os.trans h.os, k.tape.trans h.tape, k.output.trans h.output, Nat.le_trans h.size k.size,
    fun b hb hn => (k.keep b (Nat.lt_of_lt_of_le hb h.size) (fun h1 => (h.priv b h1).elim hn (fun h2 => by omega))).trans (h.keep b hb hn),
    fun b hb => (k.priv b hb).elim (fun h1 => h.priv b h1) (fun h1 => .inr (Nat.le_trans h.size h1))⟩
theorem Nz.of_below {w w' : World} {N : NP} (h : Below w.heap.size w w') : Nz w N w' N :=
  ⟨h.os, h.tape, h.output, h.size, fun b hb _ => h.block b hb, fun _ hb => .inl hb⟩
theorem Nz.drew {w w' : World} {N N' : NP} (h : Nz w N w' N') : Nz w N w'.drew N' := ⟨h.os, h.tape, h.output, h.size, h.keep, h.priv⟩
theorem Aft.now {w : World} {N : NP} {k : Tm} (h : Aft w N k) : k w N := h w N (Nz.refl w N)
theorem Aft.step {w w' : World} {N N' : NP} {k : Tm} (h : Aft w N k) (hn : Nz w N w' N') : Aft w' N' k := fun _ _ h2 => h _ _ (hn.trans h2)
theorem Aft.mono {w : World} {N : NP} {k k' : Tm} (h : Aft w N k) (hk : ∀ w' N', Nz w N w' N' → k w' N' → k' w' N') : Aft w N k' := fun w' N' hn => hk w' N' hn (h w' N' hn)
structure Bk where
  g : Nat
  T : TypeId
  cs : Array Value
structure Bx (w : World) (N : NP) (bs : List Bk) : Prop where
  lt : ∀ b, N b → b < w.heap.size
  ok : ∀ x ∈ bs, N x.g ∧ w.heap[x.g]? = some (.cells x.cs x.T (0, 0))
  nd : (bs.map (·.g)).Nodup
theorem Bx.nil (w : World) : Bx w (fun _ => False) [] := ⟨fun _ h => h.elim, fun _ h => by simp at h, by simp⟩
theorem Bx.get {w : World} {N : NP} {bs : List Bk} (h : Bx w N bs) (i : Nat) {g : Nat} {T : TypeId} {cs : Array Value} (hi : bs[i]? = some ⟨g, T, cs⟩) : w.heap[g]? = some (.cells cs T (0, 0)) :=
  (h.ok _ (List.mem_of_getElem? hi)).2
theorem Bx.priv {w : World} {N : NP} {bs : List Bk} (h : Bx w N bs) (i : Nat) {g : Nat} {T : TypeId} {cs : Array Value} (hi : bs[i]? = some ⟨g, T, cs⟩) : N g :=
  (h.ok _ (List.mem_of_getElem? hi)).1
/-- what changes nothing in the blocks of N -/
structure Qt (N : NP) (w w' : World) : Prop where
  os : w'.os = w.os
  tape : w'.tape = w.tape
  output : w'.output = w.output
  size : w.heap.size ≤ w'.heap.size
  keep : ∀ b, b < w.heap.size → N b → w'.heap[b]? = w.heap[b]?
theorem Qt.of_below {N : NP} {w w' : World} (h : Below w.heap.size w w') : Qt N w w' := ⟨h.os, h.tape, h.output, h.size, fun b hb _ => h.block b hb⟩
theorem Qt.refl (N : NP) (w : World) : Qt N w w := ⟨rfl, rfl, rfl, Nat.le_refl _, fun _ _ _ => rfl⟩
theorem Bx.quiet {w w' : World} {N : NP} {bs : List Bk} (h : Bx w N bs) (hq : Qt N w w') : Bx w' N bs :=
  ⟨fun b hb => Nat.lt_of_lt_of_le (h.lt b hb) hq.size, fun x hx => ⟨(h.ok x hx).1, (hq.keep _ (h.lt _ (h.ok x hx).1) (h.ok x hx).1).trans (h.ok x hx).2⟩, h.nd⟩
theorem Bx.drew {w : World} {N : NP} {bs : List Bk} (h : Bx w N bs) : Bx w.drew N bs := ⟨h.lt, h.ok, h.nd⟩
theorem heap_push (w : World) (o : Obj) : (w.alloc o).heap[w.heap.size]? = some o := heap_alloc_new w o
theorem Bx.new {w : World} {N : NP} {bs : List Bk} {k : Tm} (h : Bx w N bs) (H : Aft w N k) (T : TypeId) (cs : Array Value) :
    ∃ w' N' g, w' = w.alloc (.cells cs T) ∧ g = w.heap.size ∧ Bx w' N' (⟨g, T, cs⟩ :: bs) ∧ Aft w' N' k := by
  refine ⟨_, fun b => N b ∨ b = w.heap.size, _, rfl, rfl, ⟨?_, ?_, ?_⟩, H.step ⟨rfl, rfl, rfl, by simp, fun b hb _ => Below.heap_alloc w _ b hb, ?_⟩⟩
  · rintro b (hb | rfl)
    · have := h.lt b hb; simp; omega
    · simp
  · intro x hx
    rcases List.mem_cons.1 hx with rfl | hx
    · exact ⟨.inr rfl, heap_push w _⟩
    · have h1 := h.ok x hx
      exact ⟨.inl h1.1, (Below.heap_alloc w _ _ (h.lt _ h1.1)).trans h1.2⟩
  · simp only [List.map_cons, List.nodup_cons]
    refine ⟨?_, h.nd⟩
    intro hm
    obtain ⟨x, hx, he⟩ := List.mem_map.1 hm
    have := h.lt _ (h.ok x hx).1
    omega
  · rintro b (hb | rfl)
    · exact .inl hb
    · exact .inr (Nat.le_refl _)
/-- one box has other contents -/
theorem Bx.put {w : World} {N : NP} {bs : List Bk} {k : Tm} (h : Bx w N bs) (H : Aft w N k) (i : Nat) {g : Nat} {T : TypeId} {cs : Array Value} (hi : bs[i]? = some ⟨g, T, cs⟩) {w' : World} {cs' : Array Value}
    (hos : w'.os = w.os) (htape : w'.tape = w.tape) (hout : w'.output = w.output) (hsz : w'.heap.size = w.heap.size)
    (hg : w'.heap[g]? = some (.cells cs' T (0, 0))) (hoth : ∀ b, b ≠ g → w'.heap[b]? = w.heap[b]?) :
    Bx w' N (bs.set i ⟨g, T, cs'⟩) ∧ Aft w' N k := by
  have hN : N g := h.priv i hi
  have hil : i < bs.length := by
    rcases Nat.lt_or_ge i bs.length with hl | hl
    · exact hl
    · rw [List.getElem?_eq_none hl] at hi; cases hi
  refine ⟨⟨fun b hb => by rw [hsz]; exact h.lt b hb, ?_, ?_⟩, H.step ⟨hos, htape, hout, by omega, fun b _ hn => hoth b (fun e => hn (e ▸ hN)), fun b hb => .inl hb⟩⟩
  · intro x hx
    obtain ⟨j, hj⟩ := List.getElem?_of_mem hx
    by_cases hji : i = j
    · subst hji
      rw [List.getElem?_set_self hil] at hj
      obtain rfl := Option.some.inj hj
      exact ⟨hN, hg⟩
    · rw [List.getElem?_set_ne hji] at hj
      have hx2 := h.ok x (List.mem_of_getElem? hj)
      refine ⟨hx2.1, (hoth _ ?_).trans hx2.2⟩
      intro he
      have hnd := h.nd
      have e1 : (bs.map (·.g))[i]? = some g := by rw [List.getElem?_map, hi]; rfl
      have e2 : (bs.map (·.g))[j]? = some g := by rw [List.getElem?_map, hj]; simp [he]
      exact hji ((List.getElem?_inj (by simpa using hil) hnd).1 (e1.trans e2.symm))
  · have : (bs.set i ⟨g, T, cs'⟩).map (·.g) = bs.map (·.g) := by
      apply List.ext_getElem?
      intro j
      rw [List.getElem?_map, List.getElem?_map]
      by_cases hji : i = j
      · subst hji; rw [List.getElem?_set_self hil, hi]; rfl
      · rw [List.getElem?_set_ne hji]
    rw [this]; exact h.nd
/-- boxes that are forgotten -/
theorem Bx.sub {w : World} {N : NP} {bs bs' : List Bk} (h : Bx w N bs) (hs : bs'.Sublist bs) : Bx w N bs' :=
  ⟨h.lt, fun x hx => h.ok x (hs.subset hx), h.nd.sublist (hs.map _)⟩
end Go.Sol

namespace Go.Sol
open Go.RowKit
set_option linter.unusedSimpArgs false
abbrev w64 (x : Int) : Int := IntKind.i64.wrap x
theorem w64_id {x : Int} (h0 : -9223372036854775808 ≤ x) (h1 : x ≤ 9223372036854775807) : w64 x = x := by
  simp only [w64, IntKind.wrap, IntKind.bits, IntKind.signed]; simp; omega
structure Sl where
  A : Option Addr
  n : Nat
  c : Nat
def Sl.v (s : Sl) : Value := .slice s.A s.n s.c
@[irreducible] def WL (P : Program) (ops : Array Oper) (Q : Exit → Act → World → Prop) (l : List Oper) (a : Act) (w : World) : Prop := wpList P ops Q l a w
def NI (w : World) (N : NP) : NP := fun b => N b ∧ b < w.heap.size
theorem Bx.ni {w : World} {N : NP} {bs : List Bk} (B : Bx w N bs) : NI w N = N := funext fun b => propext ⟨And.left, fun h => ⟨h, B.lt b h⟩⟩
namespace T
def ldc {α : Type} (a : Addr) (dec : α → Value) (k : α → Tm) : Tm := fun w N => ∃ x, (∀ w' N', Nz w N w' N' → w'.cell? a = some (dec x)) ∧ Aft w N (k x)
def stc (a : Addr) (v : Value) (k : Tm) : Tm := fun w N => (w.cell? a).isSome = true ∧ w.frozen? a = false ∧ ¬ N a.block ∧ Aft (w.setCell a v) N k
def new (o : Obj) (k : Nat → Tm) : Tm := fun w N => ∀ g w' N', (w.heap.size ≤ g ∨ N g) → w'.heap[g]? = some o → ¬ N' g → Nz w N w' N' → k g w' N'
def call {ρ : Type} (P : Program) (f : FuncId) (args : List Value) (dec : ρ → Value) (k : ρ → Tm) : Tm := fun w N =>
  Calls P f args.toArray w fun e w2 => ∃ x, e = .returned (dec x) ∧ Qt N w w2 ∧ Aft w2 (NI w N) (k x)
def callq {ρ : Type} (P : Program) (f : FuncId) (args : List Value) (dec : ρ → Value) (k : ρ → Tm) : Tm := fun w N =>
  ∃ x, (∀ w1 N1, Nz w N w1 N1 → Calls P f args.toArray w1 fun e w2 => e = .returned (dec x) ∧ Below w1.heap.size w1 w2) ∧ Aft w N (k x)
def run {ρ : Type} (P : Program) (s : Sem Value) (dec : ρ → Value) (k : ρ → Tm) : Tm := fun w N => ∃ x w2, s.run P w = .ok (dec x) w2 ∧ Qt N w w2 ∧ Aft w2 (NI w N) (k x)
def idx (s : Sl) (i : Int) (sz : Nat) (k : Addr → Tm) : Tm := fun w N => ∃ ad, s.A = some ad ∧ 0 ≤ i ∧ i < s.n ∧ k (ad.add (i.toNat * sz)) w N
def nn (p : Option Addr) (k : Addr → Tm) : Tm := fun w N => ∃ ad, p = some ad ∧ k ad w N
def ite (b : Bool) (x y : Tm) : Tm := fun w N => (b = true → x w N) ∧ (b = false → y w N)
def ass (p : Prop) (k : Tm) : Tm := fun w N => p ∧ k w N
def loop {σ : Type} (body : σ → (σ → Tm) → Tm) (s : σ) : Tm := fun w N => ∃ (γ : Type) (J : γ → σ → Tm) (μ : γ → σ → Nat), (∃ g, J g s w N) ∧
  ∀ g s w N, J g s w N → Aft w N (body s (fun s' w' N' => ∃ g', J g' s' w' N' ∧ μ g' s' < μ g s))
def ret (R : Value → World → Prop) (v : Value) : Tm := fun w _ => R v w
end T
section
variable {P : Program} {ops : Array Oper} {Q : Exit → Act → World → Prop} {rest : List Oper} {o : Oper} {n d : Nat} {f : Nat → Value} {w w' : World} {v v1 v2 v3 : Value} {x y z : Operand} {k : IntKind} {a b : Int} {T T2 : TypeId}
theorem stp (hw : Region.wanted o (yielded ops (fr n f)) = true) (hd : o.dst = some d) (hr : (execOp (A n f).eval o).run P w = .ok (.value v) w')
    (h : WL P ops Q rest (A n (upd f d v)) w') : WL P ops Q (o :: rest) (A n f) w := by
  unfold WL at *
  unfold wpList
  rw [if_pos hw]
  refine .inl ?_
  unfold Oper.wp
  rw [hr, Oper.upon_value, hd, A_put]
  exact h
theorem stp0 (hw : Region.wanted o (yielded ops (fr n f)) = true) (hd : o.dst = none) (hr : (execOp (A n f).eval o).run P w = .ok .skip w')
    (h : WL P ops Q rest (A n f) w') : WL P ops Q (o :: rest) (A n f) w := by
  unfold WL at *
  unfold wpList
  rw [if_pos hw]
  refine .inl ?_
  unfold Oper.wp
  rw [hr, Oper.upon_skip, hd]
  exact h
theorem skp (hw : Region.wanted o (yielded ops (fr n f)) = false) (hd : o.dst = some d) (h : WL P ops Q rest (A n (upd f d undef)) w) : WL P ops Q (o :: rest) (A n f) w := by
  unfold WL at *
  unfold wpList
  rw [if_neg (by rw [hw]; simp), hd, A_put]
  exact h
theorem stpc {g : FuncId} {vs : Array Value} (hw : Region.wanted o (yielded ops (fr n f)) = true) (hd : o.dst = some d) (hr : (execOp (A n f).eval o).run P w = .ok (.enter g vs) w)
    (hC : Calls P g vs w fun e w' => ∃ v, e = .returned v ∧ WL P ops Q rest (A n (upd f d v)) w') : WL P ops Q (o :: rest) (A n f) w := by
  unfold WL at *
  unfold wpList
  rw [if_pos hw]
  refine .inl ?_
  unfold Oper.wp
  rw [hr, Oper.upon_enter]
  refine hC.mono ?_
  rintro e w' ⟨v, rfl, h⟩
  simp only
  rw [hd, A_put]
  exact h
/-- a guard that says yes, and one that says no -/
theorem wn {j dj : Nat} {b : Bool} {oj : Oper} (hg : o.guard = some (j, b)) (hj : ops[j]? = some oj) (hdj : oj.dst = some dj) (hl : Nat.blt dj n = true) (hv : f dj = .bool b) : Region.wanted o (yielded ops (fr n f)) = true := by
  have hl' : dj < n := by simpa using hl
  unfold Region.wanted
  rw [hg]
  simp [yielded, hj, hdj, fr, hl', hv]
theorem un {j dj : Nat} {b b' : Bool} {oj : Oper} (hg : o.guard = some (j, b)) (hj : ops[j]? = some oj) (hdj : oj.dst = some dj) (hl : Nat.blt dj n = true) (hv : f dj = .bool b') (hb : b' ≠ b) : Region.wanted o (yielded ops (fr n f)) = false := by
  have hl' : dj < n := by simpa using hl
  unfold Region.wanted
  rw [hg]
  simp [yielded, hj, hdj, fr, hl', hv, hb]
theorem un_undef {j dj : Nat} {b : Bool} {oj : Oper} (hg : o.guard = some (j, b)) (hj : ops[j]? = some oj) (hdj : oj.dst = some dj) (hl : Nat.blt dj n = true) (hv : f dj = undef) : Region.wanted o (yielded ops (fr n f)) = false := by
  have hl' : dj < n := by simpa using hl
  unfold Region.wanted
  rw [hg]
  simp [yielded, hj, hdj, fr, hl', hv, undef]
theorem r_move (ho : o.op = .move x) (hx : ev n f x = v) : (execOp (A n f).eval o).run P w = .ok (.value v) w := by simp [execOp, ho, A_eval, hx]
theorem r_assign (ho : o.op = .assign x) (hx : ev n f x = v) : (execOp (A n f).eval o).run P w = .ok (.value v) w := by simp [execOp, ho, A_eval, hx]
theorem r_pickt (ho : o.op = .pick x y z) (hx : ev n f x = .bool true) (hy : ev n f y = v) : (execOp (A n f).eval o).run P w = .ok (.value v) w := by simp [execOp, ho, A_eval, hx, hy, asBool, Result.andThen]
theorem r_pickf (ho : o.op = .pick x y z) (hx : ev n f x = .bool false) (hy : ev n f z = v) : (execOp (A n f).eval o).run P w = .ok (.value v) w := by simp [execOp, ho, A_eval, hx, hy, asBool, Result.andThen]
theorem r_nn {ad : Addr} (ho : o.op = .nilCheck x) (hx : ev n f x = .pointer (some ad)) : (execOp (A n f).eval o).run P w = .ok (.value (.pointer (some ad))) w := by simp [execOp, ho, A_eval, hx]
theorem r_not {b : Bool} (ho : o.op = .unOp .not T x) (hx : ev n f x = .bool b) : (execOp (A n f).eval o).run P w = .ok (.value (.bool (!b))) w := by simp [execOp, ho, A_eval, hx, Op.unary, Result.andThen]
theorem r_bin {op : BinOp} (ho : o.op = .binOp op T x y T2) (hx : ev n f x = v1) (hy : ev n f y = v2) (hg : (eqGuard op T x y v1 v2).run P w = .ok () w) (hr : (binOp op T v1 v2).run P w = .ok v w) :
    (execOp (A n f).eval o).run P w = .ok (.value v) w := by simp [execOp, ho, A_eval, hx, hy, hg, hr, Result.andThen]
theorem r_int {op : BinOp} (ho : o.op = .binOp op T x y T2) (hx : ev n f x = .int k a) (hy : ev n f y = .int k b) (hr : (binOp op T (.int k a) (.int k b)).run P w = .ok v w) :
    (execOp (A n f).eval o).run P w = .ok (.value v) w := r_bin ho hx hy (by rw [eqGuard_at_int]; rfl) hr
theorem r_lss (ho : o.op = .binOp .lss T x y T2) (hx : ev n f x = .int k a) (hy : ev n f y = .int k b) : (execOp (A n f).eval o).run P w = .ok (.value (.bool (decide (a < b)))) w := r_int ho hx hy (by rw [binOp_lss]; rfl)
theorem r_leq (ho : o.op = .binOp .leq T x y T2) (hx : ev n f x = .int k a) (hy : ev n f y = .int k b) : (execOp (A n f).eval o).run P w = .ok (.value (.bool (decide (a ≤ b)))) w := r_int ho hx hy (by rw [binOp_leq]; rfl)
theorem r_gtr (ho : o.op = .binOp .gtr T x y T2) (hx : ev n f x = .int k a) (hy : ev n f y = .int k b) : (execOp (A n f).eval o).run P w = .ok (.value (.bool (decide (b < a)))) w := r_int ho hx hy (by rw [binOp_gtr]; rfl)
theorem r_geq (ho : o.op = .binOp .geq T x y T2) (hx : ev n f x = .int k a) (hy : ev n f y = .int k b) : (execOp (A n f).eval o).run P w = .ok (.value (.bool (decide (b ≤ a)))) w := r_int ho hx hy (by rw [binOp_geq]; rfl)
theorem r_eql (ho : o.op = .binOp .eql T x y T2) (hx : ev n f x = .int k a) (hy : ev n f y = .int k b) : (execOp (A n f).eval o).run P w = .ok (.value (.bool (a == b))) w := r_int ho hx hy (by rw [binOp_eql]; rfl)
theorem r_neq (ho : o.op = .binOp .neq T x y T2) (hx : ev n f x = .int k a) (hy : ev n f y = .int k b) : (execOp (A n f).eval o).run P w = .ok (.value (.bool (a != b))) w := r_int ho hx hy (by rw [binOp_neq]; rfl)
theorem r_add (ho : o.op = .binOp .add T x y T2) (hx : ev n f x = .int k a) (hy : ev n f y = .int k b) : (execOp (A n f).eval o).run P w = .ok (.value (.int k (k.wrap (a + b)))) w := r_int ho hx hy (by rw [binOp_add]; rfl)
theorem r_sub (ho : o.op = .binOp .sub T x y T2) (hx : ev n f x = .int k a) (hy : ev n f y = .int k b) : (execOp (A n f).eval o).run P w = .ok (.value (.int k (k.wrap (a - b)))) w := r_int ho hx hy (by rw [binOp_sub]; rfl)
theorem r_mul (ho : o.op = .binOp .mul T x y T2) (hx : ev n f x = .int k a) (hy : ev n f y = .int k b) : (execOp (A n f).eval o).run P w = .ok (.value (.int k (k.wrap (a * b)))) w := r_int ho hx hy (by rw [binOp_mul]; rfl)
theorem r_quo (ho : o.op = .binOp .quo T x y T2) (hx : ev n f x = .int k a) (hy : ev n f y = .int k b) (hb : b ≠ 0) : (execOp (A n f).eval o).run P w = .ok (.value (.int k (k.wrap (a.tdiv b)))) w := r_int ho hx hy (by rw [binOp_quo]; simp [Op.intDiv, hb])
theorem r_rem (ho : o.op = .binOp .rem T x y T2) (hx : ev n f x = .int k a) (hy : ev n f y = .int k b) (hb : b ≠ 0) : (execOp (A n f).eval o).run P w = .ok (.value (.int k (a.tmod b))) w := r_int ho hx hy (by rw [binOp_rem]; simp [Op.intDiv, hb])
theorem r_and (ho : o.op = .binOp .and T x y T2) (hx : ev n f x = .int k a) (hy : ev n f y = .int k b) : (execOp (A n f).eval o).run P w = .ok (.value (.int k (bits .and k a b))) w := r_int ho hx hy (by rw [binOp_and]; rfl)
theorem r_shl {k2 : IntKind} (ho : o.op = .binOp .shl T x y T2) (hx : ev n f x = .int k a) (hy : ev n f y = .int k2 b) (hb : 0 ≤ b) : (execOp (A n f).eval o).run P w = .ok (.value (.int k (k.wrap (a * 2 ^ min b.toNat k.bits)))) w :=
  r_bin ho hx hy (by rw [eqGuard_at_int]; rfl) (by rw [binOp_shl, shift_shl_any k k2 a b hb]; rfl)
theorem r_shr {k2 : IntKind} (ho : o.op = .binOp .shr T x y T2) (hx : ev n f x = .int k a) (hy : ev n f y = .int k2 b) (hb : 0 ≤ b) : (execOp (A n f).eval o).run P w = .ok (.value (.int k (a / 2 ^ min b.toNat k.bits))) w :=
  r_bin ho hx hy (by rw [eqGuard_at_int]; rfl) (by rw [binOp_shr, shift_shr_any k k2 a b hb]; rfl)
theorem r_seql {s t : ByteArray} (ho : o.op = .binOp .eql T x y T2) (hx : ev n f x = .string s) (hy : ev n f y = .string t) : (execOp (A n f).eval o).run P w = .ok (.value (.bool (s.toList == t.toList))) w :=
  r_bin ho hx hy (by rw [eqGuard_at_string]; rfl) (by simp [binOp, Op.stringOp])
theorem r_sneq {s t : ByteArray} (ho : o.op = .binOp .neq T x y T2) (hx : ev n f x = .string s) (hy : ev n f y = .string t) : (execOp (A n f).eval o).run P w = .ok (.value (.bool (!(s.toList == t.toList)))) w :=
  r_bin ho hx hy (by rw [eqGuard_at_string]; rfl) (by simp [binOp, Op.stringOp])
theorem equalIn_bool {s t : Bool} (e : Nat) (hu : P.underlying T = some .bool) : (Op.equalIn (e + 1) T (.bool s) (.bool t)).run P w = .ok (s == t) w := by simp [Op.equalIn, run_underlying hu]
theorem r_bneq {s t : Bool} (ho : o.op = .binOp .neq T x y T2) (hx : ev n f x = .bool s) (hy : ev n f y = .bool t) (hu : P.underlying T = some .bool) : (execOp (A n f).eval o).run P w = .ok (.value (.bool (!(s == t)))) w :=
  r_bin ho hx hy (by rw [eqGuard_at_bool]; rfl) (by simp only [binOp]; simp [Op.equal, Op.maxDepth, equalIn_bool 9999 hu])
theorem r_fieldAddr {j : Nat} (ho : o.op = .fieldAddr T x j) (hx : ev n f x = v1) (hr : (Instr.fieldAt T v1 j).run P w = .ok v w) : (execOp (A n f).eval o).run P w = .ok (.value v) w := by simp [execOp, ho, A_eval, hx, hr, Result.andThen]
theorem r_load (ho : o.op = .load T x) (hx : ev n f x = v1) (hr : (Instr.loadAt T v1).run P w = .ok v w) : (execOp (A n f).eval o).run P w = .ok (.value v) w := by simp [execOp, ho, A_eval, hx, hr, Result.andThen]
theorem r_store (ho : o.op = .store T x y) (hx : ev n f x = v1) (hy : ev n f y = v2) (hr : (Instr.storeAt T v1 v2).run P w = .ok () w') : (execOp (A n f).eval o).run P w = .ok .skip w' := by simp [execOp, ho, A_eval, hx, hy, hr, Result.andThen]
theorem r_alloc (ho : o.op = .alloc T) (hr : (Instr.alloc T true (.tuple #[])).run P w = .ok v w') : (execOp (A n f).eval o).run P w = .ok (.value v) w' := by simp [execOp, ho, hr, Result.andThen]
theorem r_box (ho : o.op = .box T x) (hx : ev n f x = v1) (hr : (Instr.box T v1).run P w = .ok v w') : (execOp (A n f).eval o).run P w = .ok (.value v) w' := by simp [execOp, ho, A_eval, hx, hr, Result.andThen]
theorem r_indexAddr (ho : o.op = .indexAddr T x y) (hx : ev n f x = v1) (hy : ev n f y = v2) (hr : (Instr.indexAt T v1 v2).run P w = .ok v w) : (execOp (A n f).eval o).run P w = .ok (.value v) w := by simp [execOp, ho, A_eval, hx, hy, hr, Result.andThen]
theorem r_makeSlice (ho : o.op = .makeSlice T x y) (hx : ev n f x = v1) (hy : ev n f y = v2) (hr : (Instr.makeSlice T v1 v2).run P w = .ok v w') : (execOp (A n f).eval o).run P w = .ok (.value v) w' := by simp [execOp, ho, A_eval, hx, hy, hr, Result.andThen]
theorem r_convert (ho : o.op = .convert T T2 x) (hx : ev n f x = v1) (hr : (convert T T2 v1).run P w = .ok v w') : (execOp (A n f).eval o).run P w = .ok (.value v) w' := by simp [execOp, ho, A_eval, hx, hr, Result.andThen]
theorem r_extract {j : Nat} (ho : o.op = .extract x j) (hx : ev n f x = v1) (hr : (Instr.extract v1 j).run P w = .ok v w) : (execOp (A n f).eval o).run P w = .ok (.value v) w := by simp [execOp, ho, A_eval, hx, hr, Result.andThen]
theorem amap {aq : Array Operand} {vs : List Value} (ha : aq.toList.map (ev n f) = vs) : aq.map (A n f).eval = vs.toArray := by
  have e : (A n f).eval = ev n f := by funext p; rw [A_eval]
  rw [e, ← ha]; apply Array.ext'; simp
theorem pmap {ps : Array (Nat × Operand)} {qs : List (Nat × Value)} (hp : ps.toList.map (fun p => (p.1, ev n f p.2)) = qs) : (ps.map fun x => (x.fst, (A n f).eval x.snd)) = qs.toArray := by
  have e : (A n f).eval = ev n f := by funext p; rw [A_eval]
  rw [e, ← hp]; apply Array.ext'; simp
theorem r_build {ps : Array (Nat × Operand)} {qs : List (Nat × Value)} (ho : o.op = .build T ps) (hp : ps.toList.map (fun p => (p.1, ev n f p.2)) = qs) (hr : (Instr.build T qs.toArray).run P w = .ok v w) : (execOp (A n f).eval o).run P w = .ok (.value v) w := by
  have := pmap hp
  simp [execOp, ho, this, hr, Result.andThen]
theorem r_buildSlice {m : Nat} {ps : Array (Nat × Operand)} {qs : List (Nat × Value)} (ho : o.op = .buildSlice T m ps) (hp : ps.toList.map (fun p => (p.1, ev n f p.2)) = qs) (hr : (Instr.buildSlice T m qs.toArray).run P w = .ok v w') : (execOp (A n f).eval o).run P w = .ok (.value v) w' := by
  have := pmap hp
  simp [execOp, ho, this, hr, Result.andThen]
theorem r_makeFunc {g : Fn} {xs ys : Array Operand} {vs us : List Value} (ho : o.op = .makeFunc g xs ys) (hx : xs.toList.map (ev n f) = vs) (hy : ys.toList.map (ev n f) = us) : (execOp (A n f).eval o).run P w = .ok (.value (.func g vs.toArray us.toArray)) w := by
  have h1 := amap hx
  have h2 := amap hy
  simp [execOp, ho, h1, h2, Instr.makeFunc, Result.andThen]
theorem r_slice {lo hi mx : Option Operand} {lo' hi' mx' : Option Value} (ho : o.op = .slice T x lo hi mx) (hx : ev n f x = v1) (h1 : lo.map (ev n f) = lo') (h2 : hi.map (ev n f) = hi') (h3 : mx.map (ev n f) = mx')
    (hr : (Instr.sliceAt T v1 lo' hi' mx').run P w = .ok v w) : (execOp (A n f).eval o).run P w = .ok (.value v) w := by
  have e : ∀ q : Option Operand, q.map (A n f).eval = q.map (ev n f) := fun q => by congr 1; funext p; rw [A_eval]
  simp [execOp, ho, A_eval, hx, e, h1, h2, h3, hr, Result.andThen]
theorem r_builtin {bi : Builtin} {aq : Array Operand} {ts : Array TypeId} {vs : List Value} (ho : o.op = .call { callee := .builtin bi, args := aq, argTypes := ts }) (ha : aq.toList.map (ev n f) = vs)
    (hr : ∀ cs, (builtin bi ts o.type cs vs.toArray).run P w = .ok (.value v) w') : (execOp (A n f).eval o).run P w = .ok (.value v) w' := by
  have h1 : aq.map (A n f).eval = vs.toArray := amap ha
  simp [execOp, ho, resolve, invoke, h1, hr, Result.andThen]
theorem r_call {g : FuncId} {aq : Array Operand} {ts : Array TypeId} {vs : List Value} (ho : o.op = .call { callee := .value (.func g), args := aq, argTypes := ts }) (ha : aq.toList.map (ev n f) = vs)
    (hc : (callFunc g vs.toArray).run P w = .ok (.enter g vs.toArray) w) : (execOp (A n f).eval o).run P w = .ok (.enter g vs.toArray) w := by
  have h1 : aq.map (A n f).eval = vs.toArray := amap ha
  simp [execOp, ho, resolve, invoke, h1, A_eval, ev, Deferred.ofValue, hc, Result.andThen]
theorem r_callv {g : FuncId} {aq : Array Operand} {ts : Array TypeId} {vs : List Value} {cs us : Array Value} (ho : o.op = .call { callee := .value x, args := aq, argTypes := ts }) (hx : ev n f x = .func (.func g) #[] cs) (ha : aq.toList.map (ev n f) = vs) (hu : vs.toArray ++ cs = us)
    (hc : (callFunc g us).run P w = .ok (.enter g us) w) : (execOp (A n f).eval o).run P w = .ok (.enter g us) w := by
  have h1 : aq.map (A n f).eval = vs.toArray := amap ha
  subst hu
  simp [execOp, ho, resolve, invoke, h1, A_eval, hx, Deferred.ofValue, hc, Result.andThen]
end
end Go.Sol

namespace Go.Sol
open Go.RowKit
set_option linter.unusedSimpArgs false
def updl (f : Nat → Value) : List (Nat × Value) → (Nat → Value)
  | [] => f
  | p :: l => upd (updl f l) p.1 p.2
theorem upd_self {f : Nat → Value} {t : Nat} {v : Value} (h : f t = v) : upd f t v = f := by
  funext i
  unfold upd
  cases hb : Nat.beq i t with
  | true => have : i = t := Nat.eq_of_beq_eq_true hb
            subst this; simp [h]
  | false => simp
theorem updl_self {f : Nat → Value} : ∀ {L : List (Nat × Value)}, L.map (fun p => f p.1) = L.map Prod.snd → updl f L = f
  | [], _ => rfl
  | p :: l, h => by
    simp only [List.map_cons, List.cons.injEq] at h
    unfold updl
    rw [updl_self h.2]
    exact upd_self h.1
theorem fr_self {n : Nat} {f : Nat → Value} {L : List (Nat × Value)} (h : L.map (fun p => f p.1) = L.map Prod.snd) : A n f = A n (updl f L) := by rw [updl_self h]
section
variable {P : Program} {ops : Array Oper} {Q : Exit → Act → World → Prop} {rest : List Oper} {o : Oper} {n d : Nat} {f : Nat → Value} {w w' : World} {N N' : NP} {bs : List Bk} {x y c : Code} {a : Act} {id : Nat}
theorem fin (h : Q .normal a w) : WL P ops Q [] a w := by unfold WL; exact h
theorem c_region {l : List Oper} (h : WL P l.toArray Q l a w) : (Code.region id l.toArray false).wp P Q a w := wp_region_lit (by unfold WL at h; exact h)
theorem c_seq (h : ∀ Q2 : Exit → Act → World → Prop, (∀ a w, y.wp P Q a w → Q2 .normal a w) → (∀ e a w, e ≠ .normal → Q e a w → Q2 e a w) → x.wp P Q2 a w) : (Code.seq x y).wp P Q a w :=
  wp_seq (h (Exit.then (y.wp P Q) Q) (fun _ _ h => h) (fun e a w hne hq => by cases e <;> first | exact absurd rfl hne | exact hq))
theorem c_seqj (I : Act → World → Prop) (h : ∀ Q2 : Exit → Act → World → Prop, (∀ a w, I a w → Q2 .normal a w) → (∀ e a w, e ≠ .normal → Q e a w → Q2 e a w) → x.wp P Q2 a w) (hr : ∀ a w, I a w → y.wp P Q a w) : (Code.seq x y).wp P Q a w :=
  c_seq fun Q2 h1 h2 => h Q2 (fun a w hi => h1 a w (hr a w hi)) h2
theorem c_block (h : ∀ Q2 : Exit → Act → World → Prop, (∀ a w, Q .normal a w → Q2 .normal a w) → (∀ a w, Q .normal a w → Q2 (.exit id) a w) → (∀ e a w, e ≠ .normal → e ≠ .exit id → Q e a w → Q2 e a w) → c.wp P Q2 a w) : (Code.block id c).wp P Q a w :=
  wp_block (h (Exit.inBlock id Q) (fun _ _ h => h) (fun _ _ h => by simpa [Exit.inBlock] using h) (fun e a w h1 h2 hq => by
    cases e with
    | exit j =>
      have : j ≠ id := fun e => h2 (by rw [e])
      simpa [Exit.inBlock, this] using hq
    | normal => exact hq
    | goto l => exact hq
    | ret => exact hq
    | panic ch => exact hq
    | outgrown => exact hq))
theorem c_skip (h : Q .normal a w) : Code.skip.wp P Q a w := wp_skip h
theorem c_exit (h : Q (.exit id) a w) : (Code.exit id).wp P Q a w := wp_exit h
theorem c_ret (h : Q .ret a w) : Code.ret.wp P Q a w := wp_ret h
theorem c_cond {q : Operand} {b : Bool} (hq : ev n f q = .bool b) (ht : b = true → x.wp P Q (A n f) w) (hf : b = false → y.wp P Q (A n f) w) : (Code.cond q x y).wp P Q (A n f) w :=
  wp_cond_split (t := b) (by rw [A_eval]; exact hq) ht hf
theorem c_condf {q : Operand} (hq : ev n f q = .bool false) (h : y.wp P Q (A n f) w) : (Code.cond q x y).wp P Q (A n f) w := wp_cond_false (by rw [A_eval]; exact hq) h
theorem c_loop {σ : Type} {body : σ → (σ → Tm) → Tm} {s0 : σ} (fs : σ → List (Nat × Value)) (bx : σ → List Bk) (B : Bx w N (bx s0)) (H : Aft w N (T.loop body s0))
    (hf : (fs s0).map (fun p => f p.1) = (fs s0).map Prod.snd)
    (round : ∀ (Q2 : Exit → Act → World → Prop) (next : σ → Tm) (s : σ) (g : Nat → Value) (w : World) (N : NP),
      (∀ (s' : σ) (f' : Nat → Value) (w' : World) (N' : NP), Bx w' N' (bx s') → Aft w' N' (next s') → (fs s').map (fun p => f' p.1) = (fs s').map Prod.snd → Q2 .normal (A n f') w') →
      (∀ e a w, e ≠ .normal → Q e a w → Q2 e a w) → Bx w N (bx s) → Aft w N (body s next) → c.wp P Q2 (A n (updl g (fs s))) w) : (Code.loop c).wp P Q (A n f) w := by
  obtain ⟨γ, J, μ, ⟨g0, hJ0⟩, hJ⟩ := H.now
  refine wp_loop_ghost (fun k a w => ∃ (g0 : γ) (s : σ) (g : Nat → Value) (N : NP), a = A n (updl g (fs s)) ∧ Bx w N (bx s) ∧ J g0 s w N ∧ μ g0 s = k) (μ g0 s0) ⟨g0, s0, f, N, by rw [updl_self hf], B, hJ0, rfl⟩ ?_
  rintro k a w ⟨g0, s, g, N, rfl, B, hJs, rfl⟩
  refine wp_mono (round (Exit.then (fun a' w' => ∃ k', k' < μ g0 s ∧ ∃ (g0 : γ) (s : σ) (g : Nat → Value) (N : NP), a' = A n (updl g (fs s)) ∧ Bx w' N (bx s) ∧ J g0 s w' N ∧ μ g0 s = k') Q)
    (fun s' w' N' => ∃ g', J g' s' w' N' ∧ μ g' s' < μ g0 s) s g w N ?_ ?_ B (hJ g0 s w N hJs)) ?_
  · intro s' f' w' N' B' H' hf'
    obtain ⟨g', hg', hlt⟩ := H'.now
    exact ⟨_, hlt, g', s', f', N', by rw [updl_self hf'], B', hg', rfl⟩
  · intro e a w hne hq
    cases e <;> first | exact absurd rfl hne | exact hq
  · intro e a' w' h
    exact h
theorem at_ldc {α : Type} {ad : Addr} {dec : α → Value} {k : α → Tm} (H : Aft w N (T.ldc ad dec k)) : ∃ x, (∀ w', Below w.heap.size w w' → w'.cell? ad = some (dec x)) ∧ Aft w N (k x) := by
  obtain ⟨x, h, H⟩ := H.now
  exact ⟨x, fun w' hb => h w' N (Nz.of_below hb), H⟩
theorem at_stc {ad : Addr} {v : Value} {k : Tm} (B : Bx w N bs) (H : Aft w N (T.stc ad v k)) : (w.cell? ad).isSome = true ∧ w.frozen? ad = false ∧ Bx (w.setCell ad v) N bs ∧ Aft (w.setCell ad v) N k := by
  obtain ⟨h1, h2, h3, H⟩ := H.now
  exact ⟨h1, h2, B.quiet ⟨rfl, rfl, rfl, by simp, fun b _ hb => Below.heap_setCell w ad v b (fun e => h3 (e ▸ hb))⟩, H⟩
theorem at_idx {s : Sl} {i : Int} {sz : Nat} {k : Addr → Tm} (H : Aft w N (T.idx s i sz k)) : ∃ ad, s.A = some ad ∧ 0 ≤ i ∧ i < s.n ∧ Aft w N (k (ad.add (i.toNat * sz))) := by
  obtain ⟨ad, h1, h2, h3, _⟩ := H.now
  refine ⟨ad, h1, h2, h3, fun w' N' hn => ?_⟩
  obtain ⟨ad', h1', _, _, h4'⟩ := H w' N' hn
  rw [h1] at h1'
  obtain rfl := Option.some.inj h1'
  exact h4'
theorem at_nn {p : Option Addr} {k : Addr → Tm} (H : Aft w N (T.nn p k)) : ∃ ad, p = some ad ∧ Aft w N (k ad) := by
  obtain ⟨ad, h1, _⟩ := H.now
  refine ⟨ad, h1, fun w' N' hn => ?_⟩
  obtain ⟨ad', h1', h4'⟩ := H w' N' hn
  rw [h1] at h1'
  obtain rfl := Option.some.inj h1'
  exact h4'
theorem at_itet {b : Bool} {k1 k2 : Tm} (hb : b = true) (H : Aft w N (T.ite b k1 k2)) : Aft w N k1 := H.mono fun _ _ _ h => h.1 hb
theorem at_itef {b : Bool} {k1 k2 : Tm} (hb : b = false) (H : Aft w N (T.ite b k1 k2)) : Aft w N k2 := H.mono fun _ _ _ h => h.2 hb
theorem at_ass {p : Prop} {k : Tm} (H : Aft w N (T.ass p k)) : p ∧ Aft w N k := ⟨H.now.1, H.mono fun _ _ _ h => h.2⟩
theorem at_run {ρ : Type} {s : Sem Value} {dec : ρ → Value} {k : ρ → Tm} (B : Bx w N bs) (H : Aft w N (T.run P s dec k)) : ∃ x w2, s.run P w = .ok (dec x) w2 ∧ Bx w2 N bs ∧ Aft w2 N (k x) := by
  obtain ⟨x, w2, h1, h2, h3⟩ := H.now
  exact ⟨x, w2, h1, B.quiet h2, B.ni ▸ h3⟩
theorem at_call {ρ : Type} {g : FuncId} {vs : List Value} {dec : ρ → Value} {k : ρ → Tm} {X : Value → World → Prop} (B : Bx w N bs) (H : Aft w N (T.call P g vs dec k))
    (h : ∀ x w2, Bx w2 N bs → Aft w2 N (k x) → X (dec x) w2) : Calls P g vs.toArray w fun e w' => ∃ v, e = .returned v ∧ X v w' :=
  (show Calls P g vs.toArray w _ from H.now).mono fun _ w2 ⟨x, h1, h2, h3⟩ => ⟨dec x, h1, h x w2 (B.quiet h2) (B.ni ▸ h3)⟩
theorem at_new {ob : Obj} {k : Nat → Tm} (B : Bx w N bs) (H : Aft w N (T.new ob k)) : Bx (w.alloc ob) N bs ∧ Aft (w.alloc ob) N (k w.heap.size) := by
  have hb : Below w.heap.size w (w.alloc ob) := (Below.refl _ _).alloc (Nat.le_refl _) ob
  refine ⟨B.quiet (Qt.of_below hb), fun w' N' hn => ?_⟩
  refine H.now w.heap.size w' N' (.inl (Nat.le_refl _)) ?_ ?_ ((Nz.of_below hb).trans hn)
  · have hlt : w.heap.size < (w.alloc ob).heap.size := by simp
    rw [hn.keep _ hlt (fun h => by have := B.lt _ h; omega)]
    exact heap_push w ob
  · intro h
    rcases hn.priv _ h with h | h
    · have := B.lt _ h; omega
    · simp at h; omega
/-- a box that is handed on after all -/
theorem at_pub {T : TypeId} {cs : Array Value} {g : Nat} {k : Nat → Tm} (B : Bx w N (⟨g, T, cs⟩ :: bs)) (H : Aft w N (Sol.T.new (.cells cs T) k)) : ∃ N', Bx w N' bs ∧ Aft w N' (k g) := by
  refine ⟨fun b => N b ∧ b ≠ g, ⟨fun b hb => B.lt b hb.1, fun x hx => ⟨⟨(B.ok x (List.mem_cons_of_mem _ hx)).1, ?_⟩, (B.ok x (List.mem_cons_of_mem _ hx)).2⟩, (List.nodup_cons.1 B.nd).2⟩, fun w' N' hn => ?_⟩
  · intro he
    have h1 := (List.nodup_cons.1 B.nd).1
    exact h1 (List.mem_map.2 ⟨x, hx, he⟩)
  · have hN : N g := B.priv 0 rfl
    have hlt := B.lt g hN
    refine H.now g w' N' (.inr hN) ?_ ?_ ⟨hn.os, hn.tape, hn.output, hn.size, fun b hb h => hn.keep b hb (fun h2 => h h2.1), fun b hb => (hn.priv b hb).elim (fun h => .inl h.1) .inr⟩
    · rw [hn.keep g hlt (fun h => h.2 rfl)]
      exact (B.ok _ (List.mem_cons_self)).2
    · intro h
      rcases hn.priv g h with h | h
      · exact h.2 rfl
      · omega
def aggB : TypeDesc → Bool
  | .struct _ | .array _ _ => true
  | _ => false
theorem ld1 {T : TypeId} {u : TypeDesc} {ad : Addr} {v : Value} (hu : P.underlying T = some u) (ha : aggB u = false) (hc : w.cell? ad = some v) : (Instr.loadAt T (.pointer (some ad))).run P w = .ok v w := by
  have : (isAgg T).run P w = .ok false w := by
    simp only [isAgg, Sem.run_bind, run_underlying hu, Result.andThen_ok]
    cases u <;> simp_all [aggB]
  simp [Instr.loadAt, Instr.sureAddr, loadVar, this, hc, Result.andThen]
theorem isAgg_row {T : TypeId} {u : TypeDesc} (hu : P.underlying T = some u) (ha : aggB u = true) : (isAgg T).run P w = .ok true w := by
  simp only [isAgg, Sem.run_bind, run_underlying hu, Result.andThen_ok]
  cases u <;> simp_all [aggB]
theorem ldn {T : TypeId} {u : TypeDesc} {ad : Addr} {cs : List Value} (hu : P.underlying T = some u) (ha : aggB u = true) (hi : (P.info? T).map (·.size) = some cs.length) (hc : ∀ j v, cs[j]? = some v → w.cell? (ad.add j) = some v) :
    (Instr.loadAt T (.pointer (some ad))).run P w = .ok (.agg cs.toArray) w := by
  obtain ⟨i, hi1, hi2⟩ := Option.map_eq_some_iff.1 hi
  have hs : (sizeOf T).run P w = .ok cs.length w := by simp [sizeOf, typeInfo, hi1, hi2, Result.andThen]
  have hl := run_loadCells_list (P := P) w ad cs hc
  simp [Instr.loadAt, Instr.sureAddr, loadVar, isAgg_row hu ha, hs, hl, Result.andThen]
theorem cells_cons {ad : Addr} {v : Value} {cs : List Value} {m : Nat} (h0 : w.cell? (ad.add m) = some v) (h : ∀ j u, cs[j]? = some u → w.cell? (ad.add (m + 1 + j)) = some u) : ∀ j u, (v :: cs)[j]? = some u → w.cell? (ad.add (m + j)) = some u := by
  intro j u hj
  cases j with
  | zero => simp at hj; subst hj; exact h0
  | succ j => have := h j u (by simpa using hj); rwa [show m + (j + 1) = m + 1 + j by omega]
theorem cells_nil {ad : Addr} {m : Nat} : ∀ j u, ([] : List Value)[j]? = some u → w.cell? (ad.add (m + j)) = some u := fun j u h => by simp at h
theorem cells_start {ad : Addr} {cs : List Value} (h : ∀ j u, cs[j]? = some u → w.cell? (ad.add (0 + j)) = some u) : ∀ j u, cs[j]? = some u → w.cell? (ad.add j) = some u := fun j u hj => by have := h j u hj; rwa [Nat.zero_add] at this
/-- a box read: one cell, or whole -/
theorem bx1 {g : Nat} {T : TypeId} {cs : Array Value} {j : Nat} {v : Value} {ad : Addr} (hg : w.heap[g]? = some (.cells cs T (0, 0))) (hj : cs[j]? = some v) (ha : ad = ⟨g, j, none⟩) : w.cell? ad = some v := by
  subst ha; rw [cell_of_row w g j cs T (0, 0) hg]; exact hj
theorem bxn {g : Nat} {T T' : TypeId} {u : TypeDesc} {cs : Array Value} (hg : w.heap[g]? = some (.cells cs T' (0, 0))) (hu : P.underlying T = some u) (ha : aggB u = true) (hi : (P.info? T).map (·.size) = some cs.size) :
    (Instr.loadAt T (.pointer (some ⟨g, 0, none⟩))).run P w = .ok (.agg cs) w := by
  simp only [Instr.loadAt, Instr.sureAddr, Sem.run_bind, Sem.run_pure, Result.andThen_ok]
  exact run_loadVar_row w g T' T cs (0, 0) u hg hu (by cases u <;> simp_all [aggB]) hi
theorem st1 {T : TypeId} {ad : Addr} {v : Value} (hv : v.oneCell' = true) (hi : (P.info? T).map (·.size) = some 1) (hc : (w.cell? ad).isSome = true) (hf : w.frozen? ad = false) : (Instr.storeAt T (.pointer (some ad)) v).run P w = .ok () (w.setCell ad v) := by
  obtain ⟨i, hi1, hi2⟩ := Option.map_eq_some_iff.1 hi
  obtain ⟨u, hu⟩ := Option.isSome_iff_exists.1 hc
  have hcs : v.cells = #[v] := by cases v <;> first | rfl | cases hv
  have hst : (store ad v).run P w = .ok () (w.setCell ad v) := by
    rw [run_store P w ad v .plain hv]
    simp [stored, hu, hf]
  simp [Instr.storeAt, Instr.sureAddr, storeVar, sizeOf, typeInfo, hi1, hi2, hcs, storeCells, Addr.add_zero', hst, Result.andThen]
/-- a row of cells stored one by one -/
inductive Sts (P : Program) (N : NP) (ad : Addr) : Nat → List Value → World → World → Prop
  | nil {j : Nat} {w : World} : Sts P N ad j [] w w
  | cons {j : Nat} {v : Value} {vs : List Value} {w w' : World} : v.oneCell' = true → (w.cell? (ad.add j)).isSome = true → w.frozen? (ad.add j) = false → Sts P N ad (j + 1) vs (w.setCell (ad.add j) v) w' → Sts P N ad j (v :: vs) w w'
theorem Sts.run {ad : Addr} {j : Nat} {vs : List Value} (h : Sts P N ad j vs w w') : (storeCells ad vs j).run P w = .ok () w' := by
  induction h with
  | nil => rfl
  | @cons j v vs w w' h1 h2 h3 _ ih =>
    obtain ⟨u, hu⟩ := Option.isSome_iff_exists.1 h2
    have hst : (store (ad.add j) v).run P w = .ok () (w.setCell (ad.add j) v) := by
      rw [run_store P w _ v .plain h1]
      simp [stored, hu, h3]
    simp only [storeCells, Sem.run_bind, hst, Result.andThen_ok]
    exact ih
theorem stn {T : TypeId} {ad : Addr} {cs : Array Value} (hi : (P.info? T).map (·.size) = some cs.size) (h : Sts P N ad 0 cs.toList w w') : (Instr.storeAt T (.pointer (some ad)) (.agg cs)).run P w = .ok () w' := by
  obtain ⟨i, hi1, hi2⟩ := Option.map_eq_some_iff.1 hi
  simp [Instr.storeAt, Instr.sureAddr, storeVar, sizeOf, typeInfo, hi1, hi2, Value.cells, h.run, Result.andThen]
/-- a box's cell stored -/
theorem Bx.st1 {i j : Nat} {g : Nat} {T T' : TypeId} {cs : Array Value} {v : Value} {ad : Addr} {k : Tm} (B : Bx w N bs) (H : Aft w N k) (hb : bs[i]? = some ⟨g, T', cs⟩) (ha : ad = ⟨g, j, none⟩) (hj : Nat.blt j cs.size = true) (hv : v.oneCell' = true) (hi : (P.info? T).map (·.size) = some 1) :
    ∃ w', (Instr.storeAt T (.pointer (some ad)) v).run P w = .ok () w' ∧ Bx w' N (bs.set i ⟨g, T', cs.setIfInBounds j v⟩) ∧ Aft w' N k := by
  have hj : j < cs.size := by simpa using hj
  subst ha
  have hg := B.get i hb
  have hc : w.cell? ⟨g, j, none⟩ = cs[j]? := cell_of_row w g j cs T' (0, 0) hg
  refine ⟨w.setCell ⟨g, j, none⟩ v, Sol.st1 hv hi (by rw [hc]; simp [hj]) (by simp [World.frozen?, hg]), ?_⟩
  have hset : (w.setCell ⟨g, j, none⟩ v).heap[g]? = some (.cells (cs.setIfInBounds j v) T' (0, 0)) := by
    have hlt : g < w.heap.size := (Array.getElem?_eq_some_iff.1 hg).1
    simp only [World.setCell]
    rw [Array.getElem?_modify]
    simp [hg]
  exact B.put H i hb rfl rfl rfl (by simp) hset (fun b hb => Below.heap_setCell w _ v b hb)
/-- a box stored whole -/
theorem Bx.stn {i : Nat} {g : Nat} {T T' : TypeId} {cs cs' : Array Value} {ad : Addr} {k : Tm} (B : Bx w N bs) (H : Aft w N k) (hb : bs[i]? = some ⟨g, T', cs⟩) (ha : ad = ⟨g, 0, none⟩) (hs : cs.size = cs'.size) (hv : cs'.toList.all (·.oneCell') = true) (hi : (P.info? T).map (·.size) = some cs'.size) :
    ∃ w', (Instr.storeAt T (.pointer (some ad)) (.agg cs')).run P w = .ok () w' ∧ Bx w' N (bs.set i ⟨g, T', cs'⟩) ∧ Aft w' N k := by
  have hv : cs'.all (·.oneCell') = true := by rw [← Array.all_toList]; exact hv
  subst ha
  have hg := B.get i hb
  have hlt : g < w.heap.size := (Array.getElem?_eq_some_iff.1 hg).1
  refine ⟨w.setRow g cs', ?_, ?_⟩
  · simp only [Instr.storeAt, Instr.sureAddr, Sem.run_bind, Sem.run_pure, Result.andThen_ok]
    exact run_storeVar_row w g T' T cs cs' hg hi hs hv
  · exact B.put H i hb rfl rfl rfl (by simp [World.setRow]) (by simp [World.setRow, Array.getElem?_modify, hg]) (fun b hb => by simp [World.setRow, Array.getElem?_modify, Ne.symm hb])
inductive Rs (P : Program) (n : Nat) (f : Nat → Value) (w : World) : List ResultVar → List Value → Prop
  | nil : Rs P n f w [] []
  | tmp {t : Tmp} {v : Value} {l : List ResultVar} {vs : List Value} : ev n f (.tmp t) = v → Rs P n f w l vs → Rs P n f w (.tmp t :: l) (v :: vs)
  | cell {t : Tmp} {T : TypeId} {ad : Addr} {v : Value} {l : List ResultVar} {vs : List Value} : ev n f (.tmp t) = .pointer (some ad) → (Instr.loadAt T (.pointer (some ad))).run P w = .ok v w → Rs P n f w l vs → Rs P n f w (.cell t T :: l) (v :: vs)
theorem Rs.mapM {l : List ResultVar} {vs : List Value} (h : Rs P n f w l vs) :
    ((l.mapM fun
      | .tmp t => (pure ((fr n f).getD t undef) : Sem Value)
      | .cell a t => do loadVar t (← asAddr ((fr n f).getD a undef))) : Sem (List Value)).run P w = .ok vs w := by
  induction h with
  | nil => rfl
  | @tmp t v l vs h _ ih =>
    have e : (fr n f).getD t undef = v := (getD_fr n f t).trans h
    rw [List.mapM_cons]
    simp only [Sem.run_bind, Sem.run_pure, Result.andThen_ok, ih, e]
  | @cell t T ad v l vs h hl _ ih =>
    have e : (fr n f).getD t undef = .pointer (some ad) := (getD_fr n f t).trans h
    have hl' : (loadVar T ad).run P w = .ok v w := by
      simpa only [Instr.loadAt, Instr.sureAddr, Sem.run_bind, Sem.run_pure, Result.andThen_ok] using hl
    have hA : (asAddr ((fr n f).getD t undef)).run P w = .ok ad w := by rw [e]; rfl
    rw [List.mapM_cons]
    simp only [Sem.run_bind, Sem.run_pure, Result.andThen_ok, ih, hA, hl']
def tupv : List Value → Value
  | [v] => v
  | vs => .tuple vs.toArray
theorem Rs.run {fn : Func} {vs : List Value} (h : Rs P n f w fn.results.toList vs) : (results fn (fr n f)).run P w = .ok (tupv vs) w := by
  have hm := h.mapM
  unfold results
  generalize fn.results = ar at hm
  obtain ⟨l⟩ := ar
  simp only [List.mapM_toArray, Sem.run_bind, map_eq_pure_bind, Sem.run_pure]
  refine (congrArg (fun r : Result (List Value) => Result.andThen (Result.andThen r fun a w' => .ok a.toArray w') fun a w' => .ok (if h : a.size = 1 then a[0] else Value.tuple a) w') hm).trans ?_
  match vs with
  | [] => rfl
  | [v] => rfl
  | v :: v' :: vs => simp [tupv, Result.andThen]
theorem done {fn : Func} {R : Ending → World → Prop} {vs : List Value} {v : Value} (h : Rs P n f w fn.results.toList vs) (hv : tupv vs = v) (hR : R (.returned v) w) : bodyPost P fn R .ret (A n f) w :=
  ⟨rfl, v, by rw [← hv]; exact h.run, hR⟩
end
end Go.Sol

namespace Go.Sol
open Go.RowKit
set_option linter.unusedSimpArgs false
def Sl.nil : Sl := ⟨none, 0, 0⟩
def Sl.cut (s : Sl) (sz l h m : Nat) : Sl := ⟨if m = l then s.A else s.A.map (·.add (l * sz)), h - l, m - l⟩
structure Fv where
  f : FuncId
  cs : Array Value
def Fv.v (g : Fv) : Value := .func (.func g.f) #[] g.cs
namespace T
def callf {ρ : Type} (P : Program) (g : Fv) (args : List Value) (dec : ρ → Value) (k : ρ → Tm) : Tm := fun w N =>
  (∀ w, (callFunc g.f (args.toArray ++ g.cs)).run P w = .ok (.enter g.f (args.toArray ++ g.cs)) w) ∧
  Calls P g.f (args.toArray ++ g.cs) w fun e w2 => ∃ x, e = .returned (dec x) ∧ Qt N w w2 ∧ Aft w2 (NI w N) (k x)
end T
section
variable {P : Program} {ops : Array Oper} {K : Act → Prop} {Q : Exit → Act → World → Prop} {rest : List Oper} {o : Oper} {n d : Nat} {f : Nat → Value} {w w' : World} {N N' : NP} {bs : List Bk} {v v1 v2 v3 : Value} {x y z : Operand} {k : IntKind} {a b : Int} {T T2 : TypeId}
@[irreducible] def WQ (P : Program) (ops : Array Oper) (C : World → Prop) (K : Act → Prop) (l : List Oper) (a : Act) : Prop := wpQuiet P ops C K l a
abbrev Cw (w : World) : World → Prop := fun w' => Below w.heap.size w w'
theorem c_quiet {id : Nat} {l : List Oper} {a : Act} (hm : P.follows .mixedOrders = true) (hB : Region.lexB .any l.toArray = true)
    (h : WQ P l.toArray (Cw w) (fun a' => ∀ w', Below w.heap.size w w' → Q .normal a' w') l a) : (Code.region id l.toArray true).wp P Q a w :=
  wp_region_quiet (C := Cw w) hm hB ⟨rfl, rfl, rfl, Nat.le_refl _, fun _ _ => rfl⟩ (by unfold WQ at h; simpa using h)
theorem qfin {a : Act} (h : K a) : WQ P ops (Cw w) K [] a := by unfold WQ; exact h
theorem qstp (hw : Region.wanted o (yielded ops (fr n f)) = true) (hd : o.dst = some d) (hr : ∀ w', Below w.heap.size w w' → (execOp (A n f).eval o).run P w' = .ok (.value v) w')
    (h : WQ P ops (Cw w) K rest (A n (upd f d v))) : WQ P ops (Cw w) K (o :: rest) (A n f) := by
  unfold WQ at *
  unfold wpQuiet
  rw [if_pos hw]
  refine ⟨v, fun w' hb => ?_, by rw [hd, A_put]; exact h⟩
  unfold Oper.quietAt
  rw [hr w' hb]
  exact ⟨rfl, rfl⟩
theorem qskp (hw : Region.wanted o (yielded ops (fr n f)) = false) (hd : o.dst = some d) (h : WQ P ops (Cw w) K rest (A n (upd f d undef))) : WQ P ops (Cw w) K (o :: rest) (A n f) := by
  unfold WQ at *
  unfold wpQuiet
  rw [if_neg (by rw [hw]; simp), hd, A_put]
  exact h
theorem qstpc {g : FuncId} {vs : Array Value} (hw : Region.wanted o (yielded ops (fr n f)) = true) (hd : o.dst = some d) (hr : ∀ w', Below w.heap.size w w' → (execOp (A n f).eval o).run P w' = .ok (.enter g vs) w')
    (hC : ∀ w', Below w.heap.size w w' → Calls P g vs w' fun e w2 => e = .returned v ∧ Below w'.heap.size w' w2)
    (h : WQ P ops (Cw w) K rest (A n (upd f d v))) : WQ P ops (Cw w) K (o :: rest) (A n f) := by
  unfold WQ at *
  unfold wpQuiet
  rw [if_pos hw]
  refine ⟨v, fun w' hb => ?_, by rw [hd, A_put]; exact h⟩
  unfold Oper.quietAt
  rw [hr w' hb]
  exact ⟨rfl, (hC w' hb).mono fun e w2 h => ⟨h.1, hb.trans (h.2.mono hb.size)⟩⟩
theorem at_callq {ρ : Type} {g : FuncId} {vs : List Value} {dec : ρ → Value} {k : ρ → Tm} (H : Aft w N (Sol.T.callq P g vs dec k)) :
    ∃ x, (∀ w', Below w.heap.size w w' → Calls P g vs.toArray w' fun e w2 => e = .returned (dec x) ∧ Below w'.heap.size w' w2) ∧ Aft w N (k x) := by
  obtain ⟨x, h1, h2⟩ := H.now
  exact ⟨x, fun w' hb => h1 w' N (Nz.of_below hb), h2⟩
theorem callf_ok {ρ : Type} {g : Fv} {vs : List Value} {dec : ρ → Value} {k : ρ → Tm} (H : Aft w N (Sol.T.callf P g vs dec k)) : (callFunc g.f (vs.toArray ++ g.cs)).run P w = .ok (.enter g.f (vs.toArray ++ g.cs)) w := H.now.1 w
theorem at_callf {ρ : Type} {g : Fv} {vs : List Value} {dec : ρ → Value} {k : ρ → Tm} {X : Value → World → Prop} (B : Bx w N bs) (H : Aft w N (Sol.T.callf P g vs dec k))
    (h : ∀ x w2, Bx w2 N bs → Aft w2 N (k x) → X (dec x) w2) : Calls P g.f (vs.toArray ++ g.cs) w fun e w' => ∃ v, e = .returned v ∧ X v w' :=
  H.now.2.mono fun _ w2 ⟨x, h1, h2, h3⟩ => ⟨dec x, h1, h x w2 (B.quiet h2) (B.ni ▸ h3)⟩
theorem at_new' {ob : Obj} {k : Nat → Tm} (B : Bx w N bs) (H : Aft w N (Sol.T.new ob k)) : ∃ w' g, w' = w.alloc ob ∧ g = w.heap.size ∧ Bx w' N bs ∧ Aft w' N (k g) := ⟨_, _, rfl, rfl, at_new B H⟩
theorem box_run {cs : Array Value} {g : Nat} (hv : v.cells = cs) (hw : w' = w.alloc (.cells cs T)) (hg : g = w.heap.size) : (Instr.box T v).run P w = .ok (.pointer (some ⟨g, 0, none⟩)) w' := by
  subst hw hg hv; rfl
theorem alloc_run {ob : Obj} {g : Nat} (h : (Instr.alloc T true (.tuple #[])).run P w = .ok (.pointer (some ⟨w.heap.size, 0, none⟩)) (w.alloc ob)) (hw : w' = w.alloc ob) (hg : g = w.heap.size) :
    (Instr.alloc T true (.tuple #[])).run P w = .ok (.pointer (some ⟨g, 0, none⟩)) w' := by subst hw hg; exact h
theorem bs_run {s : Sem Value} {ob : Obj} {g m c : Nat} (h : s.run P w = .ok (.slice (some ⟨w.heap.size, 0, none⟩) m c) (w.alloc ob)) (hw : w' = w.alloc ob) (hg : g = w.heap.size) :
    s.run P w = .ok (.slice (some ⟨g, 0, none⟩) m c) w' := by subst hw hg; exact h
theorem ix {e sz : Nat} {s : Sl} {ad : Addr} {i : Int} (hu : P.underlying T = some (.slice e)) (hi : (P.info? e).map (·.size) = some sz) (he : s.A = some ad) (h0 : 0 ≤ i) (h1 : i < s.n) :
    (Instr.indexAt T (Sl.v s) (.int k i)).run P w = .ok (.pointer (some (ad.add (i.toNat * sz)))) w := by
  obtain ⟨it, hi1, hi2⟩ := Option.map_eq_some_iff.1 hi
  have hel : P.elem T = e := by simp [Program.elem, hu]
  have hs : (sizeOf e).run P w = .ok sz w := by simp [sizeOf, typeInfo, hi1, hi2, Result.andThen]
  unfold Sl.v
  rw [he, run_indexAt_slice w T ad s.n s.c k i (by rw [hel]; exact hu), if_pos ⟨h0, h1⟩, hel, hs]
  rfl
theorem lenl {e ty : Nat} {s : Sl} {cs : Array Bool} (hu : P.underlying T = some (.slice e)) : (builtin .len #[T] ty cs #[Sl.v s]).run P w = .ok (.value (.int .i64 s.n)) w := by
  have hel : P.elem T = e := by simp [Program.elem, hu]
  have := run_len_slice (P := P) w T ty s.A s.n s.c (by rw [hel]; exact hu)
  simp only [builtin, Sem.run_bind, Sl.v, this, Result.andThen_ok, Sem.run_pure, goInt]
theorem lens {ty : Nat} {s : ByteArray} {cs : Array Bool} (hu : P.underlying T = some .string) : (builtin .len #[T] ty cs #[.string s]).run P w = .ok (.value (.int .i64 s.size)) w := by
  simp [builtin, Builtin.len_, run_underlying hu, goInt, Result.andThen]
theorem max2 {ts : Array TypeId} {ty : Nat} {cs : Array Bool} (k : IntKind) (a b : Int) : (builtin .max ts ty cs #[.int k a, .int k b]).run P w = .ok (.value (.int k (if a < b then b else a))) w := by
  simp [builtin, Builtin.max_, Builtin.max2, Result.andThen]
theorem bi_append {ts : Array TypeId} {ty : Nat} {cs : Array Bool} {vs : Array Value} (h : (Builtin.append_ ts ty vs).run P w = .ok v w') : (builtin .append ts ty cs vs).run P w = .ok (.value v) w' := by simp [builtin, h, Result.andThen]
theorem bi_copy {ts : Array TypeId} {ty : Nat} {cs : Array Bool} {vs : Array Value} (h : (Builtin.copy_ ts ty vs).run P w = .ok v w') : (builtin .copy ts ty cs vs).run P w = .ok (.value v) w' := by simp [builtin, h, Result.andThen]
theorem cvi {k2 : IntKind} {u : TypeDesc} (hs : P.underlying T = some u) (hd : P.underlying T2 = some (.int k2)) : (convert T T2 (.int k a)).run P w = .ok (.int k2 (k2.wrap a)) w := by
  have e : P.intKind T2 = k2 := by simp [Program.intKind, hd]
  have := run_convert_int (P := P) w T T2 k a (by rw [hs]; rfl) (by rw [e]; exact hd)
  rw [this, e]
theorem eq_slice_nil {e : Nat} (m : Nat) (s : Sl) (hu : P.underlying T = some (.slice e)) : (Op.equalIn (m + 1) T (Sl.v s) (.slice none 0 0)).run P w = .ok s.A.isNone w := by
  obtain ⟨A, l, c⟩ := s
  cases A <;> simp [Sl.v, Op.equalIn, run_underlying hu]
theorem r_leql {e : Nat} {s : Sl} (ho : o.op = .binOp .eql T x y T2) (hx : ev n f x = Sl.v s) (hy : ev n f y = .slice none 0 0) (hu : P.underlying T = some (.slice e)) : (execOp (A n f).eval o).run P w = .ok (.value (.bool s.A.isNone)) w :=
  r_bin ho hx hy (by unfold Sl.v; rw [eqGuard_at_slice]; rfl) (by
    have := eq_slice_nil (P := P) (w := w) 9999 s hu
    unfold Sl.v at *
    simp only [binOp, Op.equal, Op.maxDepth, Sem.run_bind, this, Result.andThen_ok, Sem.run_pure])
theorem sb {k : IntKind} {i : Int} {y : Nat} {code : BoundsCode} (h0 : 0 ≤ i) (h1 : i ≤ y) : (Instr.sliceBound (.int k i) y code).run P w = .ok i.toNat w := run_sliceBound w k i y code h0 h1
section
variable {e sz : Nat} {s : Sl} {k1 k2 k3 : IntKind} {i j m : Int} (hu : P.underlying T = some (.slice e)) (hi : (P.info? e).map (·.size) = some sz)
include hu hi
theorem cut_of {lo hi' mx : Option Value} {l h c : Nat} (hb : (Instr.sliceBounds true s.n s.c lo hi' mx).run P w = .ok (l, h, c) w) : (Instr.sliceAt T (Sl.v s) lo hi' mx).run P w = .ok (Sl.v (s.cut sz l h c)) w := by
  obtain ⟨it, hi1, hi2⟩ := Option.map_eq_some_iff.1 hi
  have hs : (sizeOf e).run P w = .ok sz w := by simp [sizeOf, typeInfo, hi1, hi2, Result.andThen]
  simp [Instr.sliceAt, Instr.slice, run_underlying hu, Sl.v, hb, hs, Sl.cut, Result.andThen]
theorem cut100 (ha : 0 ≤ i ∧ i ≤ (s.n : Int) ∧ (s.n : Int) ≤ (s.c : Int) ∧ (s.c : Int) ≤ (s.c : Int)) : (Instr.sliceAt T (Sl.v s) (some (.int k1 i)) none none).run P w = .ok (Sl.v (s.cut sz i.toNat ((s.n : Int)).toNat ((s.c : Int)).toNat)) w := by
  refine cut_of hu hi ?_
  simp [Instr.sliceBounds, sb (P := P) (w := w) (k := k1) (i := i) (y := s.n) (by omega) (by omega), Result.andThen]
theorem cut010 (ha : 0 ≤ (0 : Int) ∧ (0 : Int) ≤ j ∧ j ≤ (s.c : Int) ∧ (s.c : Int) ≤ (s.c : Int)) : (Instr.sliceAt T (Sl.v s) none (some (.int k2 j)) none).run P w = .ok (Sl.v (s.cut sz (0 : Int).toNat j.toNat ((s.c : Int)).toNat)) w := by
  refine cut_of hu hi ?_
  simp [Instr.sliceBounds, sb (P := P) (w := w) (k := k2) (i := j) (y := s.c) (by omega) (by omega), Result.andThen]
end
section
variable {s : ByteArray} {k1 k2 : IntKind} {i j : Int} (hu : P.underlying T = some .string)
include hu
end
end
end Go.Sol

namespace Go.Sol
open Go.RowKit
set_option linter.unusedSimpArgs false
set_option linter.unusedVariables false
inductive Ki where
  | q | e | a
  deriving DecidableEq
abbrev CC := World → (Nat → Option Nat) → Prop
def upo (f : Nat → Value) (d : Option Tmp) (v : Value) : Nat → Value :=
  match d with
  | some d => upd f d v
  | none => f
theorem A_puto (n : Nat) (f : Nat → Value) (d : Option Tmp) (v : Value) : (A n f).put d v = A n (upo f d v) := by
  cases d with
  | none => rfl
  | some d => exact A_put n f d v
theorem upd_same (f : Nat → Value) (d : Nat) (v : Value) : upd f d v d = v := by simp [upd]
theorem upd_ne (f : Nat → Value) {d t : Nat} (v : Value) (h : t ≠ d) : upd f d v t = f t := by
  have : Nat.beq t d = false := by
    cases hb : Nat.beq t d with
    | false => rfl
    | true => exact absurd (Nat.eq_of_beq_eq_true hb) h
  simp [upd, this]
def depB (l : List Oper) (i j : Nat) : Bool :=
  match l[i]? with
  | some o => o.after.any fun e => Region.binds .any e && e.on == j
  | none => false
/-- what must have come up before operation e: from e's own edges downwards -/
def mkB (l : List Oper) (e : Nat) : Nat → List Nat → List Nat
  | 0, X => X
  | j + 1, X => if depB l e j || X.any (depB l · j) then mkB l e j (j :: X) else mkB l e j X
section
variable (P : Program) (l : List Oper) (N : Nat) (κ : Nat → Ki) (vf : Nat → Nat → Value) (hv : Nat → List (Nat × Value)) (flr : Nat → List (Nat × Nat))
def dst (i : Nat) : Option Tmp := (l[i]?).bind (·.dst)
def QY (o : Oper) (f : Nat → Value) (C : CC) (v : Value) : Prop :=
  (Region.wanted o (yielded l.toArray (fr N f)) = true ∧ ∀ w ρ, C w ρ → Oper.quietUpon P (fun w' => C w' ρ) w v ((execOp (A N f).eval o).run P w)) ∨
  (Region.wanted o (yielded l.toArray (fr N f)) = false ∧ v = undef)
def EF (o : Oper) (f : Nat → Value) (w : World) (K : Value → World → Prop) : Prop :=
  Region.wanted o (yielded l.toArray (fr N f)) = true ∧
  match (execOp (A N f).eval o).run P w with
  | .ok (.value v) w' => K v w'
  | .ok .skip w' => K undef w'
  | .ok (.enter g vs) w' => Calls P g vs w' fun e w'' => ∃ v, e = .returned v ∧ K v w''
  | _ => False
/-- the class lets boxes be made -/
def wfl (vf : Nat → Nat → Value) (fls : List (Nat × Nat)) (f : Nat → Value) (ρ : Nat → Option Nat) : Nat → Value := updl f (fls.map fun p => (p.2, vf p.1 ((ρ p.1).getD 0)))
def FLc (C : CC) : Prop := ∀ i o, l[i]? = some o → κ i = .a → ∀ w ρ, C w ρ → ρ i = none → ∀ g : Nat → Value, (∀ p ∈ hv i, g p.1 = p.2) → ∃ ob, (execOp (A N g).eval o).run P w = .ok (.value (vf i w.heap.size)) (w.alloc ob) ∧ C (w.alloc ob) (fun j => if j = i then some w.heap.size else ρ j)
def PH (T : (Nat → Value) → CC → Prop) : List Nat → List Nat → (Nat → Value) → CC → Prop
  | [], _, f, C => T f C
  | i :: t, pend, f, C =>
    match l[i]? with
    | none => False
    | some o =>
      match κ i with
      | .q => ∃ v, QY P l N o f C v ∧ (∀ i', i' < l.length → κ i' = .a → ∀ p ∈ hv i', o.dst = some p.1 → v = p.2) ∧ PH T t (i :: pend) (upo f o.dst v) C
      | .e => ∀ w ρ, C w ρ → (∀ p ∈ flr i, (ρ p.1).isSome = true) → EF P l N o (wfl vf (flr i) f ρ) w fun v w' => ∃ C' : CC, C' w' ρ ∧ FLc P l N κ vf hv C' ∧
          (∀ j ∈ pend, (mkB l i i []).contains j = true ∨ ∃ oj dj, l[j]? = some oj ∧ oj.dst = some dj ∧ QY P l N oj (upo f o.dst v) C' ((upo f o.dst v) dj)) ∧
          PH T t pend (upo f o.dst v) C'
      | .a => False
def topB : List Nat → Bool
  | [] => true
  | i :: t => t.all (fun j => !depB l i j) && topB t
/-- the order of the effects is forced -/
def segB : List Nat → List Nat → Bool
  | [], _ => true
  | i :: t, [] => segB t (if κ i = .e then [i] else [])
  | i :: t, j :: X => (j :: X).any (depB l i ·) && segB t (if κ i = .e then [i] else i :: j :: X)
def chkB (n : Nat) (ord : List Nat) : Bool :=
  Region.noSelect l.toArray && decide (n ≤ l.length) &&
  -- edges go back
  ((List.range l.length).all fun i => match l[i]? with | some o => o.after.all fun e => !Region.binds .any e || decide (e.on < i) | none => true) &&
  -- each head has a slot of its own
  ((List.range n).all fun i => (κ i == .e || (dst l i).isSome) && (List.range n).all fun j => i == j || dst l i == none || dst l i != dst l j) &&
  -- what a head reads
  ((List.range n).all fun i => match l[i]? with
    | some o => (κ i == .a && o.guard == none) || (κ i != .a && (o.looksAt l.toArray).all fun t => (List.range n).all fun j => dst l j != some t || (j != i && (κ j != .a || (κ i == .e && (flr i).contains (j, t))) && depB l i j))
    | none => false) &&
  ((List.range n).all fun i => κ i != .e || (flr i).all fun p => decide (p.1 < n) && κ p.1 == .a && dst l p.1 == some p.2 && depB l i p.1) &&
  ((List.range n).all fun i => κ i != .a || (hv i).all fun p => (List.range n).any fun j => κ j == .q && dst l j == some p.1 && depB l i j) &&
  -- ord: the heads, each once
  (ord.all fun i => decide (i < n) && κ i != .a) && ((List.range n).all fun i => κ i == .a || ord.contains i) && decide ord.Nodup && segB l κ ord [] && topB l ord &&
  -- the tail
  ((List.range n).all fun i => n == l.length || (List.range (n + 1)).any fun j => decide (i < j) && depB l j i) &&
  ((List.range l.length).all fun i => decide (i ≤ n) || depB l i (i - 1))
end
section
variable {P : Program} {l : List Oper} {N : Nat} {κ : Nat → Ki} {vf : Nat → Nat → Value} {hv : Nat → List (Nat × Value)} {flr : Nat → List (Nat × Nat)} {n : Nat} {ord : List Nat} {Q : Exit → Act → World → Prop} {f0 : Nat → Value}
theorem depB_spec {i j : Nat} (h : depB l i j = true) : ∃ o, l[i]? = some o ∧ ∃ e ∈ o.after, Region.binds .any e = true ∧ e.on = j := by
  unfold depB at h
  split at h
  · rename_i o ho
    obtain ⟨e, he, hb⟩ := Array.any_eq_true'.1 h
    simp only [Bool.and_eq_true, beq_iff_eq] at hb
    exact ⟨o, ho, e, he, hb.1, hb.2⟩
  · cases h
structure Ck (l : List Oper) (κ : Nat → Ki) (hv : Nat → List (Nat × Value)) (flr : Nat → List (Nat × Nat)) (n : Nat) (ord : List Nat) : Prop where
  sel : Region.noSelect l.toArray = true
  le : n ≤ l.length
  back : ∀ i o, l[i]? = some o → ∀ e ∈ o.after, Region.binds .any e = true → e.on < i
  slot : ∀ i, i < n → κ i ≠ .e → (dst l i).isSome = true
  own : ∀ i j t, i < n → j < n → i ≠ j → dst l i = some t → dst l j ≠ some t
  guard : ∀ i o, i < n → l[i]? = some o → κ i = .a → o.guard = none
  reads : ∀ i o t j, i < n → l[i]? = some o → κ i ≠ .a → t ∈ o.looksAt l.toArray → j < n → dst l j = some t → j ≠ i ∧ (κ j ≠ .a ∨ (κ i = .e ∧ (j, t) ∈ flr i)) ∧ depB l i j = true
  flrd : ∀ i, i < n → κ i = .e → ∀ p ∈ flr i, p.1 < n ∧ κ p.1 = .a ∧ dst l p.1 = some p.2 ∧ depB l i p.1 = true
  hvd : ∀ i, i < n → κ i = .a → ∀ p ∈ hv i, ∃ j, j < n ∧ κ j = .q ∧ dst l j = some p.1 ∧ depB l i j = true
  ordn : ∀ i ∈ ord, i < n ∧ κ i ≠ .a
  all : ∀ i, i < n → κ i ≠ .a → i ∈ ord
  nd : ord.Nodup
  seg : segB l κ ord [] = true
  top : topB l ord = true
  sink : n < l.length → ∀ i, i < n → ∃ j, j ≤ n ∧ i < j ∧ depB l j i = true
  chain : ∀ i, n < i → i < l.length → depB l i (i - 1) = true
theorem Ck.of (h : chkB l κ hv flr n ord = true) : Ck l κ hv flr n ord := by
  simp only [chkB, Bool.and_eq_true] at h
  obtain ⟨⟨⟨⟨⟨⟨⟨⟨⟨⟨⟨⟨⟨h1, h2⟩, h3⟩, h4⟩, h5⟩, h5f⟩, h5'⟩, h6⟩, h7⟩, h8⟩, h9⟩, h9'⟩, h10⟩, h11⟩ := h
  have h2 : n ≤ l.length := of_decide_eq_true h2
  have R : ∀ {m : Nat} {p : Nat → Bool}, (List.range m).all p = true → ∀ i, i < m → p i = true := fun h i hi => List.all_eq_true.1 h i (List.mem_range.2 hi)
  refine ⟨h1, h2, ?_, ?_, ?_, ?_, ?_, ?_, ?_, ?_, ?_, of_decide_eq_true h8, h9, h9', ?_, ?_⟩
  · intro i o ho e he hb
    have hi : i < l.length := (List.getElem?_eq_some_iff.1 ho).1
    have := R h3 i hi
    rw [ho] at this
    have := Array.all_eq_true_iff_forall_mem.1 this e he
    simpa [hb] using this
  · intro i hi hk
    have := (Bool.and_eq_true _ _ ▸ R h4 i hi : _ ∧ _).1
    simpa [hk] using this
  · intro i j t hi hj hij ht hjt
    have := R ((Bool.and_eq_true _ _ ▸ R h4 i hi : _ ∧ _).2) j hj
    simp [hij, ht, hjt] at this
  · intro i o hi ho hk
    have := R h5 i hi
    rw [ho] at this
    simp [hk] at this
    exact this
  · intro i o t j hi ho hk ht hj hd
    have := R h5 i hi
    rw [ho] at this
    simp only [Bool.or_eq_true, Bool.and_eq_true, beq_iff_eq, bne_iff_ne, ne_eq, hk, false_and, not_false_eq_true, true_and, false_or] at this
    have := R (List.all_eq_true.1 this t ht) j hj
    simpa [hd, and_assoc] using this
  · intro i hi hk p hp
    have := R h5f i hi
    simp only [hk, bne_self_eq_false, Bool.false_or] at this
    have := List.all_eq_true.1 this p hp
    simpa [and_assoc] using this
  · intro i hi hk p hp
    have := R h5' i hi
    simp only [hk, bne_self_eq_false, Bool.false_or] at this
    obtain ⟨j, hj, hb⟩ := List.any_eq_true.1 (List.all_eq_true.1 this p hp)
    simp only [Bool.and_eq_true, beq_iff_eq] at hb
    exact ⟨j, List.mem_range.1 hj, hb.1.1, hb.1.2, hb.2⟩
  · intro i hi
    have := List.all_eq_true.1 h6 i hi
    simpa using this
  · intro i hi hk
    have := R h7 i hi
    simpa [hk] using this
  · intro hlt i hi
    have := R h10 i hi
    have hne : (n == l.length) = false := by simp; omega
    rw [hne, Bool.false_or] at this
    obtain ⟨j, hj, hb⟩ := List.any_eq_true.1 this
    simp only [Bool.and_eq_true, decide_eq_true_eq] at hb
    exact ⟨j, by have := List.mem_range.1 hj; omega, hb.1, hb.2⟩
  · intro i h1 h2
    have := R h11 i h2
    have hne : decide (i ≤ n) = false := by simp; omega
    rwa [hne, Bool.false_or] at this
/-- what is said of the list of what has come up -/
structure Ls (l : List Oper) (L : Array Bool) : Prop where
  size : L.size = l.length
  closed : ∀ i o, l[i]? = some o → L.getD i false = true → ∀ e ∈ o.after, Region.binds .any e = true → L.getD e.on false = true
theorem ft {L : Array Bool} {i : Nat} (h : L.getD i true = false) : L.getD i false = false := by
  rcases Nat.lt_or_ge i L.size with h' | h'
  · simp [h'] at h ⊢; exact h
  · simp [Array.getElem?_eq_none h'] at h
theorem tf {L : Array Bool} {i : Nat} (hi : i < L.size) (h : L.getD i false = false) : L.getD i true = false := by
  simp [hi] at h ⊢; exact h
theorem get_set {L : Array Bool} {i j : Nat} (hi : i < L.size) : (L.setIfInBounds i true).getD j false = (decide (i = j) || L.getD j false) := by
  rcases Nat.lt_or_ge j L.size with h | h
  · by_cases hij : i = j
    · subst hij; simp [h]
    · simp [h, hij, Array.getElem_setIfInBounds]
  · have : i ≠ j := by omega
    simp [Array.getElem?_eq_none h, this]
theorem Ls.set {L : Array Bool} (h : Ls l L) {i : Nat} (hi : i ∈ Region.ready .any l.toArray L) : Ls l (L.setIfInBounds i true) := by
  obtain ⟨hu, oi, hoi, hall⟩ := mem_ready.1 hi
  have hoi : l[i]? = some oi := by simpa using hoi
  have hlt : i < L.size := by rw [h.size]; exact (List.getElem?_eq_some_iff.1 hoi).1
  refine ⟨by simp [h.size], fun j oj hj hl e he hb => ?_⟩
  rw [get_set hlt] at hl ⊢
  by_cases hij : i = j
  · subst hij
    rw [hoi] at hj
    obtain rfl := Option.some.inj hj
    simp [hall e he hb]
  · simp only [hij, decide_false, Bool.false_or] at hl
    simp [h.closed j oj hj hl e he hb]
def left (L : Array Bool) (m : Nat) : Nat := (List.range m).countP fun i => !L.getD i false
theorem left_set {L : Array Bool} {i m : Nat} (hi : i < L.size) (him : i < m) (hu : L.getD i false = false) : left (L.setIfInBounds i true) m + 1 = left L m := by
  unfold left
  have key : ∀ m, (List.range m).countP (fun j => !(L.setIfInBounds i true).getD j false) + (if i < m then 1 else 0) = (List.range m).countP fun j => !L.getD j false := by
    intro m
    induction m with
    | zero => simp
    | succ m ih =>
      rw [List.range_succ, List.countP_append, List.countP_append, ← ih]
      simp only [List.countP_cons, List.countP_nil, Nat.zero_add, get_set hi]
      by_cases h1 : i = m
      · subst h1; simp [hu]
      · have : (i < m + 1) = (i < m) := by simp; omega
        simp only [h1, decide_false, Bool.false_or, this]
        omega
  have := key m
  simp only [him, if_true] at this
  exact this
theorem ready_of {L : Array Bool} (hk : Ck l κ hv flr n ord) (hL : Ls l L) {i : Nat} (hi : i < l.length) (hu : L.getD i false = false) : ∃ j, j ∈ Region.ready .any l.toArray L := by
  induction i using Nat.strongRecOn with
  | _ i ih =>
    by_cases h : ∃ j, j < i ∧ L.getD j false = false
    · obtain ⟨j, hj, hju⟩ := h
      exact ih j hj (by omega) hju
    · have ho : l[i]? = some l[i] := List.getElem?_eq_getElem hi
      refine ⟨i, mem_ready.2 ⟨tf (by rw [hL.size]; exact hi) hu, l[i], by simp [hi], fun e he hb => ?_⟩⟩
      have := hk.back i _ ho e he hb
      cases hq : L.getD e.on false with
      | true => rfl
      | false => exact absurd ⟨e.on, this, hq⟩ h
/-- the tail, one behind the other -/
theorem tail_any (hk : Ck l κ hv flr n ord) : ∀ (fuel k : Nat) (L : Array Bool) (a : Act) (w : World), Ls l L → n ≤ k → (∀ i, i < k → L.getD i false = true) → (∀ i, k ≤ i → i < l.length → L.getD i false = false) → l.length - k ≤ fuel →
    wpList P l.toArray Q (l.drop k) a w → wpAny P .any l.toArray Q fuel L a w := by
  intro fuel
  induction fuel with
  | zero =>
    intro k L a w hL hn hd hu hf h
    have hdr : l.drop k = [] := List.drop_eq_nil_of_le (by omega)
    rw [hdr] at h
    refine ⟨?_, h⟩
    rw [List.eq_nil_iff_forall_not_mem]
    intro i hi
    obtain ⟨h1, o, ho, _⟩ := mem_ready.1 hi
    have hlt : i < l.length := by have := (Array.getElem?_eq_some_iff.1 ho).1; simpa using this
    have := hd i (by omega)
    rw [ft h1] at this
    cases this
  | succ fuel ih =>
    intro k L a w hL hn hd hu hf h
    have only : ∀ i ∈ Region.ready .any l.toArray L, i = k := by
      intro i hi
      obtain ⟨h1, o, ho, hall⟩ := mem_ready.1 hi
      have ho : l[i]? = some o := by simpa using ho
      have hlt : i < l.length := (List.getElem?_eq_some_iff.1 ho).1
      rcases Nat.lt_trichotomy i k with h2 | h2 | h2
      · have := hd i h2; rw [ft h1] at this; cases this
      · exact h2
      · obtain ⟨o', ho', e, he, hb, hon⟩ := depB_spec (hk.chain i (by omega) hlt)
        rw [ho] at ho'
        obtain rfl := Option.some.inj ho'
        have h3 := hall e he hb
        rw [hon, hu (i - 1) (by omega) (by omega)] at h3
        cases h3
    by_cases hkl : k < l.length
    · have ho : l[k]? = some l[k] := List.getElem?_eq_getElem hkl
      have hdr : l.drop k = l[k] :: l.drop (k + 1) := (List.drop_eq_getElem_cons hkl)
      rw [hdr] at h
      refine ⟨fun h0 => ?_, fun i hi => ?_⟩
      · obtain ⟨j, hj⟩ := ready_of hk hL hkl (hu k (Nat.le_refl _) hkl)
        rw [h0] at hj; cases hj
      · obtain rfl := only i hi
        have hw : wpOp P l.toArray Q i (wpList P l.toArray Q (l.drop (i + 1))) a w := by unfold wpOp; simp only [List.getElem?_toArray, ho]; exact h
        refine wpOp_mono (fun a' w' h' => ih (i + 1) _ a' w' (hL.set hi) (by omega) (fun j hj => ?_) (fun j hj hj2 => ?_) (by omega) h') hw
        · rw [get_set (by rw [hL.size]; exact hkl)]
          by_cases h2 : i = j
          · simp [h2]
          · simp [hd j (by omega)]
        · rw [get_set (by rw [hL.size]; exact hkl)]
          have h2 : i ≠ j := by omega
          simp [h2, hu j (by omega) hj2]
    · have hdr : l.drop k = [] := List.drop_eq_nil_of_le (by omega)
      rw [hdr] at h
      refine ⟨fun _ => h, fun i hi => ?_⟩
      obtain ⟨_, o, ho, _⟩ := mem_ready.1 hi
      have hlt : i < l.length := by have := (Array.getElem?_eq_some_iff.1 ho).1; simpa using this
      have := only i hi
      omega
theorem mkB_listed {L : Array Bool} (hL : Ls l L) {e : Nat} {oe : Oper} (he : l[e]? = some oe) (hr : ∀ x ∈ oe.after, Region.binds .any x = true → L.getD x.on false = true) :
    ∀ (k : Nat) (X : List Nat), (∀ j ∈ X, L.getD j false = true) → ∀ j ∈ mkB l e k X, L.getD j false = true
  | 0, X, h => h
  | k + 1, X, h => by
    unfold mkB
    split
    · rename_i hc
      refine mkB_listed hL he hr k _ fun j hj => ?_
      rcases List.mem_cons.1 hj with rfl | hj
      · rcases Bool.or_eq_true _ _ ▸ hc with hc | hc
        · obtain ⟨o, ho, x, hx, hb, hon⟩ := depB_spec hc
          rw [he] at ho
          obtain rfl := Option.some.inj ho
          rw [← hon]; exact hr x hx hb
        · obtain ⟨m, hm, hc⟩ := List.any_eq_true.1 hc
          obtain ⟨o, ho, x, hx, hb, hon⟩ := depB_spec hc
          rw [← hon]; exact hL.closed m o ho (h m hm) x hx hb
      · exact h j hj
    · exact mkB_listed hL he hr k _ h
end
end Go.Sol

namespace Go.Sol
open Go.RowKit
set_option linter.unusedSimpArgs false
set_option linter.unusedVariables false
section
variable {P : Program} {l : List Oper} {N : Nat} {κ : Nat → Ki} {vf : Nat → Nat → Value} {hv : Nat → List (Nat × Value)} {flr : Nat → List (Nat × Nat)} {n : Nat} {ord : List Nat} {Q : Exit → Act → World → Prop} {f f' f0 : Nat → Value} {o : Oper} {C C' : CC} {v : Value} {T : (Nat → Value) → CC → Prop}
theorem ex_congr (hs : ∀ cs b, o.op ≠ .select cs b) (h : ∀ t ∈ o.looksAt l.toArray, f t = f' t) : execOp (A N f).eval o = execOp (A N f').eval o := by
  refine execOp_congr o hs fun x hx => ?_
  rw [A_eval, A_eval]
  cases x with
  | tmp t =>
    have : f t = f' t := h t (List.mem_append_left _ (List.mem_filterMap.2 ⟨.tmp t, by simpa using hx, rfl⟩))
    simp [ev, this]
  | const v => rfl
  | global g => rfl
  | func g => rfl
theorem wanted_congr (h : ∀ t ∈ o.looksAt l.toArray, f t = f' t) : Region.wanted o (yielded l.toArray (fr N f)) = Region.wanted o (yielded l.toArray (fr N f')) := by
  unfold Region.wanted
  cases hg : o.guard with
  | none => rfl
  | some g =>
    obtain ⟨j, b⟩ := g
    simp only
    congr 1
    unfold yielded
    cases hd : (l.toArray[j]?).bind (·.dst) with
    | none => simp
    | some d =>
      have hm : d ∈ o.looksAt l.toArray := by
        unfold Oper.looksAt
        refine List.mem_append_right _ ?_
        simp only [hg, hd]
        simp
      have e : (fr N f)[d]? = (fr N f')[d]? := by
        unfold fr
        by_cases hdn : d < N
        · simp [hdn, h d hm]
        · simp [hdn]
      simp only [Option.bind_some, e]
theorem QY_congr (hs : ∀ cs b, o.op ≠ .select cs b) (h : ∀ t ∈ o.looksAt l.toArray, f t = f' t) (hq : QY P l N o f C v) : QY P l N o f' C v := by
  unfold QY at *
  rw [← wanted_congr h, ← ex_congr hs h]
  exact hq
theorem EF_congr {K : Value → World → Prop} {w : World} (hs : ∀ cs b, o.op ≠ .select cs b) (h : ∀ t ∈ o.looksAt l.toArray, f t = f' t) (hq : EF P l N o f w K) : EF P l N o f' w K := by
  unfold EF at *
  rw [← wanted_congr h, ← ex_congr hs h]
  exact hq
theorem seg_of (κ : Nat → Ki) (S : List Nat) : ∀ (t X : List Nat), (∀ j ∈ X, j ∈ S) → X ≠ [] → segB l κ t X = true → (∀ i ∈ t, i ∈ S) → ∀ i ∈ t, ∃ j ∈ S, depB l i j = true
  | [], _, _, _, _, _ => fun i h => by simp at h
  | i :: t, [], _, hX, _, _ => absurd rfl hX
  | i :: t, j :: X, hS, _, h, ht => by
    simp only [segB, Bool.and_eq_true] at h
    intro k hk
    rcases List.mem_cons.1 hk with rfl | hk
    · obtain ⟨m, hm, hd⟩ := List.any_eq_true.1 h.1
      exact ⟨m, hS m hm, hd⟩
    · refine seg_of κ S t _ ?_ ?_ h.2 (fun i hi => ht i (List.mem_cons_of_mem _ hi)) k hk
      · intro m hm
        split at hm
        · simp at hm; subst hm; exact ht m List.mem_cons_self
        · rcases List.mem_cons.1 hm with rfl | hm
          · exact ht m List.mem_cons_self
          · exact hS m hm
      · split <;> simp
theorem seg_drop : ∀ (pre t X : List Nat), segB l κ (pre ++ t) X = true → ∃ X', segB l κ t X' = true
  | [], t, X, h => ⟨X, h⟩
  | i :: pre, t, [], h => by simp only [List.cons_append, segB] at h; exact seg_drop pre t _ h
  | i :: pre, t, j :: X, h => by simp only [List.cons_append, segB, Bool.and_eq_true] at h; exact seg_drop pre t _ h.2
theorem seg_head (h : segB l κ ord [] = true) {e : Nat} {t : List Nat} (hs : (e :: t) <:+ ord) (he : κ e = .e) : ∀ i ∈ t, ∃ j ∈ e :: t, depB l i j = true := by
  obtain ⟨pre, rfl⟩ := hs
  obtain ⟨X', h⟩ := seg_drop pre _ _ h
  have h2 : segB l κ t [e] = true := by
    cases X' with
    | nil => simpa [segB, he] using h
    | cons j X => simp only [segB, Bool.and_eq_true, he, if_true] at h; exact h.2
  exact seg_of κ (e :: t) t [e] (fun j hj => by simp at hj; subst hj; simp) (by simp) h2 (fun i hi => List.mem_cons_of_mem _ hi)
theorem top_of : ∀ (pre t : List Nat), topB l (pre ++ t) = true → ∀ j ∈ pre, ∀ i ∈ t, depB l j i = false
  | [], _, _, _, h => by simp at h
  | k :: pre, t, h, j, hj => by
    simp only [List.cons_append, topB, Bool.and_eq_true] at h
    intro i hi
    rcases List.mem_cons.1 hj with rfl | hj
    · have := List.all_eq_true.1 h.1 i (List.mem_append_right _ hi)
      simpa using this
    · exact top_of pre t h.2 j hj i hi
/-- what holds at every moment of the heads -/
structure Iv (P : Program) (l : List Oper) (N : Nat) (κ : Nat → Ki) (vf : Nat → Nat → Value) (hv : Nat → List (Nat × Value)) (flr : Nat → List (Nat × Nat)) (n : Nat) (ord : List Nat) (T : (Nat → Value) → CC → Prop) (f0 : Nat → Value) (L : Array Bool) (g : Nat → Value) (w : World)
    (t pend : List Nat) (f : Nat → Value) (C : CC) (ρ : Nat → Option Nat) : Prop where
  ph : PH P l N κ vf hv flr T t pend f C
  c : C w ρ
  fl : FLc P l N κ vf hv C
  suf : t <:+ ord
  s1 : ∀ i ∈ t, L.getD i false = false
  s2 : ∀ i, i < n → κ i = .e → i ∉ t → L.getD i false = true
  pd : ∀ i, i < n → κ i = .q → i ∉ t → i ∈ pend
  q : ∀ i, i < n → κ i = .q → i ∉ t → L.getD i false = false → ∃ o d, l[i]? = some o ∧ o.dst = some d ∧ QY P l N o f C (f d)
  g1 : ∀ i d, i < n → L.getD i false = true → κ i ≠ .a → dst l i = some d → g d = f d
  g2 : ∀ i d, i < n → L.getD i false = true → κ i = .a → dst l i = some d → ∃ b, ρ i = some b ∧ g d = vf i b
  g3 : ∀ d, (∀ i, i < n → L.getD i false = true → dst l i ≠ some d) → g d = f0 d
  fz : ∀ d, (∀ i, i < n → κ i ≠ .a → i ∉ t → dst l i ≠ some d) → f d = f0 d
  hh : ∀ i, i < n → κ i = .a → ∀ p ∈ hv i, ∀ j, j < n → κ j = .q → j ∉ t → dst l j = some p.1 → f p.1 = p.2
  rn : ∀ i, i < n → κ i = .a → L.getD i false = false → ρ i = none
theorem dst_of {i : Nat} (ho : l[i]? = some o) : dst l i = o.dst := by simp [dst, ho]
/-- the canonical order goes on to the next effect -/
theorem Iv.adv (hk : Ck l κ hv flr n ord) {L : Array Bool} {g : Nat → Value} {w : World} {ρ : Nat → Option Nat} : ∀ (t pend : List Nat) (f : Nat → Value), Iv P l N κ vf hv flr n ord T f0 L g w t pend f C ρ →
    ∃ t pend f, Iv P l N κ vf hv flr n ord T f0 L g w t pend f C ρ ∧ (t = [] ∨ ∃ e t', t = e :: t' ∧ κ e = .e)
  | [], pend, f, h => ⟨[], pend, f, h, .inl rfl⟩
  | i :: t, pend, f, h => by
    have hio : i ∈ ord := h.suf.subset List.mem_cons_self
    obtain ⟨hin, hia⟩ := hk.ordn i hio
    cases hki : κ i with
    | e => exact ⟨_, _, _, h, .inr ⟨i, t, rfl, hki⟩⟩
    | a => exact absurd hki hia
    | q =>
      have hp := h.ph
      unfold PH at hp
      split at hp
      · exact hp.elim
      · rename_i o ho
        rw [hki] at hp
        obtain ⟨v, hq, hvv, hp⟩ := hp
        have hdo := dst_of ho
        obtain ⟨d, hd⟩ := Option.isSome_iff_exists.1 (hk.slot i hin (by rw [hki]; simp))
        rw [hdo] at hd
        have hup : upo f o.dst v = upd f d v := by rw [hd]; rfl
        rw [hup] at hp
        have hnd : i ∉ t := by
          have := (List.Nodup.sublist h.suf.sublist hk.nd)
          exact (List.nodup_cons.1 this).1
        have hui := h.s1 i List.mem_cons_self
        have other : ∀ j d', j < n → j ≠ i → dst l j = some d' → d' ≠ d := by
          intro j d' hj hji hdj he
          subst he
          exact hk.own i j d' hin hj (Ne.symm hji) (by rw [hdo]; exact hd) hdj
        obtain ⟨pre, hpre⟩ := h.suf
        have late : ∀ j, j ∈ ord → j ∉ i :: t → depB l j i = false := by
          intro j hj hjt
          rw [← hpre] at hj
          exact top_of pre (i :: t) (by rw [hpre]; exact hk.top) j ((List.mem_append.1 hj).resolve_right hjt) i List.mem_cons_self
        refine Iv.adv hk t (i :: pend) (upd f d v) ⟨hp, h.c, h.fl, (List.suffix_cons i t).trans h.suf, fun j hj => h.s1 j (List.mem_cons_of_mem _ hj), ?_, ?_, ?_, ?_, h.g2, h.g3, ?_, ?_, h.rn⟩
        · intro j hj hje hjt
          refine h.s2 j hj hje fun hm => ?_
          rcases List.mem_cons.1 hm with rfl | hm
          · rw [hki] at hje; cases hje
          · exact hjt hm
        · intro j hj hjq hjt
          by_cases hji : j = i
          · subst hji; exact List.mem_cons_self
          · exact List.mem_cons_of_mem _ (h.pd j hj hjq (fun hm => (List.mem_cons.1 hm).elim hji hjt))
        · intro j hj hjq hjt hju
          by_cases hji : j = i
          · subst hji
            refine ⟨o, d, ho, hd, ?_⟩
            rw [upd_same]
            refine QY_congr (f := f) (Region.noSelect_spec hk.sel j o · · (by simpa using ho)) (fun t' ht' => ?_) hq
            refine (upd_ne f v fun e => ?_).symm
            subst e
            have := hk.reads j o t' j hin ho hia ht' hin (by rw [hdo]; exact hd)
            exact this.1 rfl
          · have hjt' : j ∉ i :: t := fun hm => (List.mem_cons.1 hm).elim hji hjt
            obtain ⟨oj, dj, hoj, hdj, hqj⟩ := h.q j hj hjq hjt' hju
            have hjo : j ∈ ord := hk.all j hj (by rw [hjq]; simp)
            refine ⟨oj, dj, hoj, hdj, ?_⟩
            rw [upd_ne f v (other j dj hj hji (by rw [dst_of hoj]; exact hdj))]
            refine QY_congr (f := f) (Region.noSelect_spec hk.sel j oj · · (by simpa using hoj)) (fun t' ht' => ?_) hqj
            refine (upd_ne f v fun e => ?_).symm
            subst e
            have h3 := hk.reads j oj t' i hj hoj (by rw [hjq]; simp) ht' hin (by rw [hdo]; exact hd)
            rw [late j hjo hjt'] at h3
            exact absurd h3.2.2 (by simp)
        · intro j d' hj hjl hja hdj
          have hji : j ≠ i := fun e => by subst e; rw [hui] at hjl; cases hjl
          rw [upd_ne f v (other j d' hj hji hdj)]
          exact h.g1 j d' hj hjl hja hdj
        · intro d' hall
          have hne : d' ≠ d := fun e => hall i hin hia hnd (by rw [hdo, e]; exact hd)
          rw [upd_ne f v hne]
          refine h.fz d' fun j hj hja hjt => ?_
          exact hall j hj hja (fun hm => hjt (List.mem_cons_of_mem _ hm))
        · intro i' hi' hk' p hp' j hj hjq hjt hdj
          by_cases hji : j = i
          · subst hji
            rw [hdo] at hdj
            have e := hvv i' (Nat.lt_of_lt_of_le hi' hk.le) hk' p hp' hdj
            rw [hd] at hdj
            obtain rfl := Option.some.inj hdj
            rw [upd_same]; exact e
          · rw [upd_ne f v (other j p.1 hj hji hdj)]
            exact h.hh i' hi' hk' p hp' j hj hjq (fun hm => (List.mem_cons.1 hm).elim hji hjt) hdj
theorem wpOp_of_QY {i : Nat} {g : Nat → Value} {w : World} {ρ : Nat → Option Nat} {K : Act → World → Prop} (ho : l[i]? = some o) (hq : QY P l N o g C v) (hc : C w ρ) (h : ∀ w', C w' ρ → K (A N (upo g o.dst v)) w') : wpOp P l.toArray Q i K (A N g) w := by
  unfold wpOp
  simp only [List.getElem?_toArray, ho]
  rcases hq with ⟨hw, hq⟩ | ⟨hw, rfl⟩
  · rw [if_pos hw]
    refine .inl ?_
    have h1 := hq w ρ hc
    unfold Oper.wp
    generalize (execOp (A N g).eval o).run P w = r at *
    cases r with
    | ok nx w' =>
      cases nx <;> simp only [Oper.quietUpon] at h1 <;> simp only [Oper.upon]
      case value u =>
        obtain ⟨e1, e2⟩ := h1
        rw [e1, e2, A_puto]
        exact h _ hc
      case skip =>
        obtain ⟨e1, e2⟩ := h1
        rw [e1, ← e2, A_puto]
        exact h _ hc
      case enter k args =>
        obtain ⟨e1, hC⟩ := h1
        rw [e1]
        exact hC.mono fun e w'' ⟨he, hw''⟩ => by subst he; simp only; rw [A_puto]; exact h _ hw''
    | halt x w' => simp only [Oper.quietUpon] at h1
  · rw [if_neg (by rw [hw]; simp), A_puto]
    exact h _ hc
theorem wpOp_of_EF {i : Nat} {g : Nat → Value} {w : World} {K : Act → World → Prop} {K' : Value → World → Prop} (ho : l[i]? = some o) (hq : EF P l N o g w K') (h : ∀ v w', K' v w' → K (A N (upo g o.dst v)) w') : wpOp P l.toArray Q i K (A N g) w := by
  unfold wpOp
  simp only [List.getElem?_toArray, ho]
  obtain ⟨hw, hq⟩ := hq
  rw [if_pos hw]
  refine .inl ?_
  unfold Oper.wp
  generalize (execOp (A N g).eval o).run P w = r at *
  cases r with
  | ok nx w' =>
    cases nx <;> simp only at hq <;> simp only [Oper.upon]
    case value u => rw [A_puto]; exact h _ _ hq
    case skip => rw [A_puto]; exact h _ _ hq
    case enter k args => exact hq.mono fun e w'' ⟨v, he, hw''⟩ => by subst he; simp only; rw [A_puto]; exact h _ _ hw''
  | halt x w' => simp only at hq
theorem left_pos {L : Array Bool} {i : Nat} : ∀ {m : Nat}, i < m → L.getD i false = false → 0 < left L m := by
  intro m him hu
  unfold left
  exact List.countP_pos_iff.2 ⟨i, List.mem_range.2 him, by simp [hu]⟩
theorem left_eq {L : Array Bool} {n : Nat} : ∀ {m : Nat}, (∀ i, i < n → L.getD i false = true) → (∀ i, n ≤ i → i < m → L.getD i false = false) → m - n ≤ left L m := by
  intro m
  induction m with
  | zero => intro _ _; omega
  | succ m ih =>
    intro h1 h2
    have h3 := ih h1 (fun i hi hi2 => h2 i hi (by omega))
    have h4 : left L (m + 1) = left L m + (if L.getD m false then 0 else 1) := by
      unfold left
      rw [List.range_succ, List.countP_append]
      cases hb : L.getD m false <;> simp [-Array.getD_eq_getD_getElem?, hb]
    by_cases hm : m < n
    · omega
    · rw [h4, h2 m (by omega) (by omega)]
      simp
      omega
theorem sinks (hk : Ck l κ hv flr n ord) {L : Array Bool} (hL : Ls l L) (ht : ∀ i, n ≤ i → i < l.length → L.getD i false = false) {i : Nat} (hi : i ∈ Region.ready .any l.toArray L) (hni : n ≤ i) : ∀ j, j < n → L.getD j false = true := by
  obtain ⟨_, o, ho, hall⟩ := mem_ready.1 hi
  have ho : l[i]? = some o := by simpa using ho
  have hlt : i < l.length := (List.getElem?_eq_some_iff.1 ho).1
  have hin : i = n := by
    rcases Nat.lt_or_ge n i with h | h
    · obtain ⟨o', ho', e, he, hb, hon⟩ := depB_spec (hk.chain i h hlt)
      rw [ho] at ho'
      obtain rfl := Option.some.inj ho'
      have h3 := hall e he hb
      rw [hon, ht (i - 1) (by omega) (by omega)] at h3
      cases h3
    · omega
  subst hin
  have key : ∀ d j, i - j = d → j < i → L.getD j false = true := by
    intro d
    induction d using Nat.strongRecOn with
    | _ d ih =>
      intro j hd hj
      obtain ⟨k, hk1, hk2, hk3⟩ := hk.sink hlt j hj
      obtain ⟨o', ho', e, he, hb, hon⟩ := depB_spec hk3
      rw [← hon]
      by_cases hki : k = i
      · subst hki
        rw [ho] at ho'
        obtain rfl := Option.some.inj ho'
        exact hall e he hb
      · exact hL.closed k o' ho' (ih (i - k) (by omega) k rfl (by omega)) e he hb
  exact fun j hj => key _ j rfl hj
def flsB (l : List Oper) (κ : Nat → Ki) (n : Nat) (fls : List (Nat × Nat)) : Bool :=
  ((List.range n).all fun i => κ i != .a || fls.any fun p => p.1 == i && dst l i == some p.2) && fls.all fun p => decide (p.1 < n) && κ p.1 == .a && dst l p.1 == some p.2
theorem updl_ne {t : Nat} : ∀ (M : List (Nat × Value)), (∀ p ∈ M, p.1 ≠ t) → updl f M t = f t
  | [], _ => rfl
  | p :: M, h => by
    unfold updl
    rw [upd_ne _ _ (Ne.symm (h p List.mem_cons_self))]
    exact updl_ne M fun q hq => h q (List.mem_cons_of_mem _ hq)
theorem updl_mem {t : Nat} {v : Value} : ∀ (M : List (Nat × Value)), (∃ p ∈ M, p.1 = t) → (∀ p ∈ M, p.1 = t → p.2 = v) → updl f M t = v
  | [], h, _ => by obtain ⟨p, hp, _⟩ := h; simp at hp
  | p :: M, h, ha => by
    unfold updl
    by_cases hp : p.1 = t
    · rw [← hp, upd_same]; exact ha p List.mem_cons_self hp
    · rw [upd_ne _ _ (Ne.symm hp)]
      obtain ⟨q, hq, hqt⟩ := h
      exact updl_mem M ⟨q, (List.mem_cons.1 hq).resolve_left (fun e => hp (e ▸ hqt)), hqt⟩ fun r hr => ha r (List.mem_cons_of_mem _ hr)
theorem phase_any (hk : Ck l κ hv flr n ord) {fls : List (Nat × Nat)} (hfl : flsB l κ n fls = true) (hT : ∀ f C, T f C → ∀ w ρ, C w ρ → (∀ p ∈ fls, (ρ p.1).isSome = true) → wpList P l.toArray Q (l.drop n) (A N (wfl vf fls f ρ)) w) :
    ∀ (fuel : Nat) (L : Array Bool) (g : Nat → Value) (w : World) (t pend : List Nat) (f : Nat → Value) (C : CC) (ρ : Nat → Option Nat), Iv P l N κ vf hv flr n ord T f0 L g w t pend f C ρ → (t = [] ∨ ∃ e t', t = e :: t' ∧ κ e = .e) →
    Ls l L → (∀ i, n ≤ i → i < l.length → L.getD i false = false) → left L l.length ≤ fuel → wpAny P .any l.toArray Q fuel L (A N g) w := by
  simp only [flsB, Bool.and_eq_true] at hfl
  obtain ⟨hfl1, hfl2⟩ := hfl
  have heads : ∀ (fuel : Nat) (L : Array Bool) (g : Nat → Value) (w : World) (t pend : List Nat) (f : Nat → Value) (C : CC) (ρ : Nat → Option Nat), Iv P l N κ vf hv flr n ord T f0 L g w t pend f C ρ →
      Ls l L → (∀ i, n ≤ i → i < l.length → L.getD i false = false) → left L l.length ≤ fuel → (∀ i, i < n → L.getD i false = true) → wpAny P .any l.toArray Q fuel L (A N g) w := by
    intro fuel L g w t pend f C ρ iv hL ht hle hall
    have htn : t = [] := by
      cases t with
      | nil => rfl
      | cons i t =>
        have h1 := iv.s1 i List.mem_cons_self
        rw [hall i (hk.ordn i (iv.suf.subset List.mem_cons_self)).1] at h1
        cases h1
    subst htn
    have hp : T f C := iv.ph
    have hg : g = wfl vf fls f ρ := by
      funext d
      unfold wfl
      by_cases h1 : ∃ i, i < n ∧ κ i = .a ∧ dst l i = some d
      · obtain ⟨i, hi, hka, hdi⟩ := h1
        have h2 := List.all_eq_true.1 hfl1 i (List.mem_range.2 hi)
        simp only [hka, bne_self_eq_false, Bool.false_or] at h2
        obtain ⟨p, hp1, hp2⟩ := List.any_eq_true.1 h2
        simp only [Bool.and_eq_true, beq_iff_eq] at hp2
        obtain ⟨b, hb1, hb2⟩ := iv.g2 i d hi (hall i hi) hka hdi
        rw [hb2]
        refine (updl_mem _ ⟨(p.2, _), List.mem_map.2 ⟨p, hp1, rfl⟩, ?_⟩ ?_).symm
        · rw [hdi] at hp2; exact (Option.some.inj hp2.2).symm
        · intro q hq hqd
          obtain ⟨r, hr, rfl⟩ := List.mem_map.1 hq
          have h3 := List.all_eq_true.1 hfl2 r hr
          simp only [Bool.and_eq_true, decide_eq_true_eq, beq_iff_eq] at h3
          have : r.1 = i := by
            rcases Nat.decEq r.1 i with hne | he
            · exact absurd (by rw [h3.2, ← hqd] : dst l r.1 = some d) (hk.own i r.1 d hi h3.1.1 (Ne.symm hne) hdi)
            · exact he
          simp only [this, hb1, Option.getD_some]
      · have hnf : updl f (fls.map fun p => (p.2, vf p.1 ((ρ p.1).getD 0))) d = f d := by
          refine updl_ne _ fun q hq hqd => ?_
          obtain ⟨r, hr, rfl⟩ := List.mem_map.1 hq
          have h3 := List.all_eq_true.1 hfl2 r hr
          simp only [Bool.and_eq_true, decide_eq_true_eq, beq_iff_eq] at h3
          exact h1 ⟨r.1, h3.1.1, h3.1.2, by rw [h3.2, ← hqd]⟩
        rw [hnf]
        by_cases h2 : ∃ i, i < n ∧ dst l i = some d
        · obtain ⟨i, hi, hdi⟩ := h2
          exact iv.g1 i d hi (hall i hi) (fun e => h1 ⟨i, hi, e, hdi⟩) hdi
        · rw [iv.g3 d fun i hi _ hdi => h2 ⟨i, hi, hdi⟩, iv.fz d fun i hi _ _ hdi => h2 ⟨i, hi, hdi⟩]
    have hs : ∀ p ∈ fls, (ρ p.1).isSome = true := fun p hp => by
      have h3 := List.all_eq_true.1 hfl2 p hp
      simp only [Bool.and_eq_true, decide_eq_true_eq, beq_iff_eq] at h3
      obtain ⟨b, hb, _⟩ := iv.g2 p.1 p.2 h3.1.1 (hall _ h3.1.1) h3.1.2 h3.2
      rw [hb]; rfl
    have hw := hT f C hp w ρ iv.c hs
    rw [← hg] at hw
    exact tail_any hk fuel n L (A N g) w hL (Nat.le_refl _) hall ht (Nat.le_trans (left_eq hall ht) hle) hw
  intro fuel
  induction fuel with
  | zero =>
    intro L g w t pend f C ρ iv hd hL ht hle
    refine heads 0 L g w t pend f C ρ iv hL ht hle fun i hi => ?_
    cases hq : L.getD i false with
    | true => rfl
    | false => have := left_pos (L := L) (m := l.length) (i := i) (Nat.lt_of_lt_of_le hi hk.le) hq; omega
  | succ fuel ih =>
    intro L g w t pend f C ρ iv hd hL ht hle
    by_cases hall : ∀ i, i < n → L.getD i false = true
    · exact heads (fuel + 1) L g w t pend f C ρ iv hL ht hle hall
    obtain ⟨i0, hi0, hu0⟩ : ∃ i, i < n ∧ L.getD i false = false := by
      rcases Classical.em (∃ i, i < n ∧ L.getD i false = false) with h | h
      · exact h
      · exact absurd (fun i hi => by
          cases hq : L.getD i false with
          | true => rfl
          | false => exact absurd ⟨i, hi, hq⟩ h) hall
    refine ⟨fun h0 => ?_, fun i hi => ?_⟩
    · obtain ⟨j, hj⟩ := ready_of hk hL (Nat.lt_of_lt_of_le hi0 hk.le) hu0
      rw [h0] at hj; cases hj
    have hin : i < n := by
      rcases Nat.lt_or_ge i n with h | h
      · exact h
      · exact absurd (sinks hk hL ht hi h) hall
    have hi2 := hi
    obtain ⟨hu, o, ho, hr⟩ := mem_ready.1 hi
    have ho : l[i]? = some o := by simpa using ho
    have hlt : i < L.size := by rw [hL.size]; exact Nat.lt_of_lt_of_le hin hk.le
    have huf := ft hu
    have hdo := dst_of ho
    have dep : ∀ j, depB l i j = true → L.getD j false = true := by
      intro j hj
      obtain ⟨o', ho', e, he, hb, hon⟩ := depB_spec hj
      rw [ho] at ho'
      obtain rfl := Option.some.inj ho'
      rw [← hon]; exact hr e he hb
    have hgs : ∀ j, (L.setIfInBounds i true).getD j false = (decide (i = j) || L.getD j false) := fun j => get_set hlt
    have hL' := hL.set hi
    have ht' : ∀ j, n ≤ j → j < l.length → (L.setIfInBounds i true).getD j false = false := fun j hj hj2 => by
      have hne : i ≠ j := by omega
      rw [hgs, ht j hj hj2]; simp [hne]
    have hle' : left (L.setIfInBounds i true) l.length ≤ fuel := by
      have := left_set hlt (Nat.lt_of_lt_of_le hin hk.le) huf
      omega
    have other : ∀ j d d', j < n → j ≠ i → dst l j = some d' → dst l i = some d → d' ≠ d := by
      intro j d d' hj hji hdj hdi he
      subst he
      exact hk.own i j d' hin hj (Ne.symm hji) hdi hdj
    have agr : κ i = .q → ∀ t' ∈ o.looksAt l.toArray, f t' = g t' := by
      intro hkq t' ht'
      have hka : κ i ≠ .a := by rw [hkq]; simp
      by_cases h1 : ∃ j, j < n ∧ dst l j = some t'
      · obtain ⟨j, hj, hdj⟩ := h1
        have h2 := hk.reads i o t' j hin ho hka ht' hj hdj
        have h2a : κ j ≠ .a := h2.2.1.resolve_right fun e => by rw [hkq] at e; exact absurd e.1 (by simp)
        exact (iv.g1 j t' hj (dep j h2.2.2) h2a hdj).symm
      · rw [iv.g3 t' fun j hj _ hdj => h1 ⟨j, hj, hdj⟩, iv.fz t' fun j hj _ _ hdj => h1 ⟨j, hj, hdj⟩]
    have hsel := fun cs b => Region.noSelect_spec hk.sel i o cs b (by simpa using ho)
    cases hki : κ i with
    | a =>
      have hgd := hk.guard i o hin ho hki
      obtain ⟨d, hd0⟩ := Option.isSome_iff_exists.1 (hk.slot i hin (by rw [hki]; simp))
      have hdd : o.dst = some d := by rw [← hdo]; exact hd0
      have hti : i ∉ t := fun hm => (hk.ordn i (iv.suf.subset hm)).2 hki
      obtain ⟨ob, hrun, hc'⟩ := iv.fl i o ho hki w ρ iv.c (iv.rn i hin hki huf) g fun p hp => by
        obtain ⟨j, hj, hjq, hjd, hdep⟩ := hk.hvd i hin hki p hp
        have hjl := dep j hdep
        have hjt : j ∉ t := fun hm => by rw [iv.s1 j hm] at hjl; cases hjl
        rw [iv.g1 j p.1 hj hjl (by rw [hjq]; simp) hjd]
        exact iv.hh i hin hki p hp j hj hjq hjt hjd
      unfold wpOp
      simp only [List.getElem?_toArray, ho]
      rw [if_pos (by simp [Region.wanted, hgd])]
      refine .inl ?_
      unfold Oper.wp
      rw [hrun, Oper.upon_value, hdd, A_put]
      refine ih _ _ _ t pend f C _ ⟨iv.ph, hc', iv.fl, iv.suf, ?_, ?_, iv.pd, ?_, ?_, ?_, ?_, iv.fz, iv.hh, ?_⟩ hd hL' ht' hle'
      · intro j hj
        rw [hgs, iv.s1 j hj]
        have : i ≠ j := fun e => hti (e ▸ hj)
        simp [this]
      · intro j hj hje hjt; rw [hgs, iv.s2 j hj hje hjt]; simp
      · intro j hj hjq hjt hju
        rw [hgs] at hju
        exact iv.q j hj hjq hjt (by simpa using (Bool.or_eq_false_iff.1 hju).2)
      · intro j d' hj hjl hja hdj
        have hji : j ≠ i := fun e => by subst e; exact hja hki
        rw [hgs] at hjl
        have hji' : i ≠ j := Ne.symm hji
        rw [upd_ne g _ (other j d d' hj hji hdj hd0)]
        exact iv.g1 j d' hj (by simpa [-Array.getD_eq_getD_getElem?, hji'] using hjl) hja hdj
      · intro j d' hj hjl hja hdj
        by_cases hji : j = i
        · subst hji
          rw [hd0] at hdj
          obtain rfl := Option.some.inj hdj
          exact ⟨w.heap.size, by simp, upd_same _ _ _⟩
        · rw [hgs] at hjl
          have hji' : i ≠ j := Ne.symm hji
          rw [upd_ne g _ (other j d d' hj hji hdj hd0)]
          simp only [hji, if_false]
          exact iv.g2 j d' hj (by simpa [-Array.getD_eq_getD_getElem?, hji'] using hjl) hja hdj
      · intro d' hall'
        have hne : d' ≠ d := fun e => hall' i hin (by rw [hgs]; simp) (by rw [hd0, e])
        rw [upd_ne g _ hne]
        exact iv.g3 d' fun j hj hjl => hall' j hj (by rw [hgs, hjl]; simp)
      · intro j hj hja hju
        rw [hgs] at hju
        have hju' := Bool.or_eq_false_iff.1 hju
        have hji : j ≠ i := fun e => by simp [e] at hju'
        simp only [hji, if_false]
        exact iv.rn j hj hja hju'.2
    | q =>
      obtain ⟨d, hd0⟩ := Option.isSome_iff_exists.1 (hk.slot i hin (by rw [hki]; simp))
      have hdd : o.dst = some d := by rw [← hdo]; exact hd0
      have hti : i ∉ t := by
        intro hm
        rcases hd with rfl | ⟨e, t', rfl, hke⟩
        · simp at hm
        · rcases List.mem_cons.1 hm with rfl | hm
          · rw [hki] at hke; cases hke
          · obtain ⟨j, hj, hdj⟩ := seg_head hk.seg iv.suf hke i hm
            have := iv.s1 j hj
            rw [dep j hdj] at this
            cases this
      obtain ⟨o', d', ho', hd', hq⟩ := iv.q i hin hki hti huf
      rw [ho] at ho'
      obtain rfl := Option.some.inj ho'
      rw [hdd] at hd'
      obtain rfl := Option.some.inj hd'
      have hq' := QY_congr hsel (agr hki) hq
      refine wpOp_of_QY ho hq' iv.c fun w' hc' => ?_
      rw [hdd]
      refine ih _ _ _ t pend f C ρ ⟨iv.ph, hc', iv.fl, iv.suf, ?_, ?_, iv.pd, ?_, ?_, ?_, ?_, iv.fz, iv.hh, ?_⟩ hd hL' ht' hle'
      · intro j hj
        rw [hgs, iv.s1 j hj]
        have : i ≠ j := fun e => hti (e ▸ hj)
        simp [this]
      · intro j hj hje hjt; rw [hgs, iv.s2 j hj hje hjt]; simp
      · intro j hj hjq hjt hju
        rw [hgs] at hju
        exact iv.q j hj hjq hjt (by simpa using (Bool.or_eq_false_iff.1 hju).2)
      · intro j d' hj hjl hja hdj
        by_cases hji : j = i
        · subst hji
          rw [hd0] at hdj
          obtain rfl := Option.some.inj hdj
          exact upd_same _ _ _
        · rw [hgs] at hjl
          have hji' : i ≠ j := Ne.symm hji
          show upd g d (f d) d' = f d'
          rw [upd_ne g _ (other j d d' hj hji hdj hd0)]
          exact iv.g1 j d' hj (by simpa [-Array.getD_eq_getD_getElem?, hji'] using hjl) hja hdj
      · intro j d' hj hjl hja hdj
        have hji : j ≠ i := fun e => by subst e; rw [hki] at hja; cases hja
        rw [hgs] at hjl
        have hji' : i ≠ j := Ne.symm hji
        obtain ⟨b, hb1, hb2⟩ := iv.g2 j d' hj (by simpa [-Array.getD_eq_getD_getElem?, hji'] using hjl) hja hdj
        refine ⟨b, hb1, ?_⟩
        show upd g d (f d) d' = _
        rw [upd_ne g _ (other j d d' hj hji hdj hd0)]
        exact hb2
      · intro d' hall'
        have hne : d' ≠ d := fun e => hall' i hin (by rw [hgs]; simp) (by rw [hd0, e])
        show upd g d (f d) d' = _
        rw [upd_ne g _ hne]
        exact iv.g3 d' fun j hj hjl => hall' j hj (by rw [hgs, hjl]; simp)
      · intro j hj hja hju
        rw [hgs] at hju
        exact iv.rn j hj hja (Bool.or_eq_false_iff.1 hju).2
    | e =>
      have hti : i ∈ t := by
        rcases Classical.em (i ∈ t) with h | h
        · exact h
        · have := iv.s2 i hin hki h; rw [huf] at this; cases this
      obtain ⟨t', rfl⟩ : ∃ t', t = i :: t' := by
        rcases hd with rfl | ⟨e, t', rfl, hke⟩
        · simp at hti
        · rcases List.mem_cons.1 hti with rfl | hm
          · exact ⟨t', rfl⟩
          · obtain ⟨j, hj, hdj⟩ := seg_head hk.seg iv.suf hke i hm
            have := iv.s1 j hj
            rw [dep j hdj] at this
            cases this
      have hnd : i ∉ t' := (List.nodup_cons.1 (List.Nodup.sublist iv.suf.sublist hk.nd)).1
      have hp := iv.ph
      unfold PH at hp
      rw [ho] at hp
      simp only [hki] at hp
      have hrs : ∀ p ∈ flr i, ∃ b, ρ p.1 = some b ∧ g p.2 = vf p.1 b := fun p hp => by
        obtain ⟨h1, h2, h3, h4⟩ := hk.flrd i hin hki p hp
        exact iv.g2 p.1 p.2 h1 (dep p.1 h4) h2 h3
      have hef := hp w ρ iv.c fun p hp => by obtain ⟨b, hb, _⟩ := hrs p hp; rw [hb]; rfl
      have agrE : ∀ t' ∈ o.looksAt l.toArray, wfl vf (flr i) f ρ t' = g t' := by
        intro t' ht'
        unfold wfl
        by_cases h0 : ∃ p ∈ flr i, p.2 = t'
        · obtain ⟨p, hp, rfl⟩ := h0
          obtain ⟨b, hb, hgb⟩ := hrs p hp
          rw [hgb]
          refine updl_mem _ ⟨(p.2, _), List.mem_map.2 ⟨p, hp, rfl⟩, rfl⟩ ?_
          intro q hq hqd
          obtain ⟨r, hr, rfl⟩ := List.mem_map.1 hq
          obtain ⟨h1, h2, h3, _⟩ := hk.flrd i hin hki p hp
          obtain ⟨k1, k2, k3, _⟩ := hk.flrd i hin hki r hr
          have : r.1 = p.1 := by
            rcases Nat.decEq r.1 p.1 with hne | he
            · exact absurd (by rw [k3]; exact congrArg some hqd : dst l r.1 = some p.2) (hk.own p.1 r.1 p.2 h1 k1 (Ne.symm hne) h3)
            · exact he
          simp only [this, hb, Option.getD_some]
        · rw [updl_ne _ fun q hq hqd => by obtain ⟨r, hr, rfl⟩ := List.mem_map.1 hq; exact h0 ⟨r, hr, hqd⟩]
          by_cases h1 : ∃ j, j < n ∧ dst l j = some t'
          · obtain ⟨j, hj, hdj⟩ := h1
            have h2 := hk.reads i o t' j hin ho (by rw [hki]; simp) ht' hj hdj
            have h2a : κ j ≠ .a := h2.2.1.resolve_right fun e => h0 ⟨_, e.2, rfl⟩
            exact (iv.g1 j t' hj (dep j h2.2.2) h2a hdj).symm
          · rw [iv.g3 t' fun j hj _ hdj => h1 ⟨j, hj, hdj⟩, iv.fz t' fun j hj _ _ hdj => h1 ⟨j, hj, hdj⟩]
      have hef' := EF_congr hsel agrE hef
      refine wpOp_of_EF ho hef' ?_
      rintro v w' ⟨C', hc', hfl', hre, hp'⟩
      have fo : ∀ j d', j < n → j ≠ i → dst l j = some d' → upo f o.dst v d' = f d' := by
        intro j d' hj hji hdj
        cases hdd : o.dst with
        | none => rfl
        | some d => exact upd_ne f v (other j d d' hj hji hdj (by rw [hdo, hdd]))
      have go : ∀ j d', j < n → j ≠ i → dst l j = some d' → upo g o.dst v d' = g d' := by
        intro j d' hj hji hdj
        cases hdd : o.dst with
        | none => rfl
        | some d => exact upd_ne g v (other j d d' hj hji hdj (by rw [hdo, hdd]))
      have iv' : Iv P l N κ vf hv flr n ord T f0 (L.setIfInBounds i true) (upo g o.dst v) w' t' pend (upo f o.dst v) C' ρ := by
        refine ⟨hp', hc', hfl', (List.suffix_cons i t').trans iv.suf, ?_, ?_, ?_, ?_, ?_, ?_, ?_, ?_, ?_, ?_⟩
        · intro j hj
          rw [hgs, iv.s1 j (List.mem_cons_of_mem _ hj)]
          have : i ≠ j := fun e => hnd (e ▸ hj)
          simp [this]
        · intro j hj hje hjt
          rw [hgs]
          by_cases hji : i = j
          · simp [hji]
          · rw [iv.s2 j hj hje (fun hm => (List.mem_cons.1 hm).elim (fun e => hji e.symm) hjt)]; simp
        · intro j hj hjq hjt
          refine iv.pd j hj hjq fun hm => (List.mem_cons.1 hm).elim (fun e => ?_) hjt
          rw [e, hki] at hjq; cases hjq
        · intro j hj hjq hjt hju
          rw [hgs] at hju
          have hju' := (Bool.or_eq_false_iff.1 hju).2
          have hji : j ≠ i := fun e => by rw [e, hki] at hjq; cases hjq
          have hpd := iv.pd j hj hjq fun hm => (List.mem_cons.1 hm).elim (fun e => hji e) hjt
          rcases hre j hpd with h | ⟨oj, dj, h1, h2, h3⟩
          · have := mkB_listed hL ho (fun x hx hb => hr x hx hb) i [] (fun _ h => by simp at h) j (by simpa using h)
            rw [hju'] at this; cases this
          · exact ⟨oj, dj, h1, h2, h3⟩
        · intro j d' hj hjl hja hdj
          by_cases hji : j = i
          · subst hji
            rw [hdo] at hdj
            rw [hdj]
            simp [upo, upd_same]
          · rw [fo j d' hj hji hdj, go j d' hj hji hdj]
            rw [hgs] at hjl
            have hji' : i ≠ j := Ne.symm hji
            exact iv.g1 j d' hj (by simpa [-Array.getD_eq_getD_getElem?, hji'] using hjl) hja hdj
        · intro j d' hj hjl hja hdj
          have hji : j ≠ i := fun e => by rw [e, hki] at hja; cases hja
          rw [go j d' hj hji hdj]
          rw [hgs] at hjl
          have hji' : i ≠ j := Ne.symm hji
          exact iv.g2 j d' hj (by simpa [-Array.getD_eq_getD_getElem?, hji'] using hjl) hja hdj
        · intro d' hall'
          have : upo g o.dst v d' = g d' := by
            cases hdd : o.dst with
            | none => rfl
            | some d => exact upd_ne g v fun e => hall' i hin (by rw [hgs]; simp) (by rw [hdo, hdd, e])
          rw [this]
          exact iv.g3 d' fun j hj hjl => hall' j hj (by rw [hgs, hjl]; simp)
        · intro d' hall'
          have : upo f o.dst v d' = f d' := by
            cases hdd : o.dst with
            | none => rfl
            | some d => exact upd_ne f v fun e => hall' i hin (by rw [hki]; simp) hnd (by rw [hdo, hdd, e])
          rw [this]
          exact iv.fz d' fun j hj hja hjt => hall' j hj hja fun hm => hjt (List.mem_cons_of_mem _ hm)
        · intro i' hi' hk' p hp' j hj hjq hjt hdj
          have hji : j ≠ i := fun e => by rw [e, hki] at hjq; cases hjq
          rw [fo j p.1 hj hji hdj]
          exact iv.hh i' hi' hk' p hp' j hj hjq (fun hm => (List.mem_cons.1 hm).elim (fun e => hji e) hjt) hdj
        · intro j hj hja hju
          rw [hgs] at hju
          exact iv.rn j hj hja (Bool.or_eq_false_iff.1 hju).2
      obtain ⟨t2, p2, f2, iv2, hd2⟩ := Iv.adv hk t' pend _ iv'
      exact ih _ _ _ t2 p2 f2 C' ρ iv2 hd2 hL' ht' hle'
/-- THE LAW: heads in whatever order, the effects in theirs, boxes at any time, then the tail. -/
theorem c_phase {id : Nat} {w : World} {ρ : Nat → Option Nat} (n : Nat) (κ : Nat → Ki) (vf : Nat → Nat → Value) (hv : Nat → List (Nat × Value)) (flr : Nat → List (Nat × Nat)) (ord : List Nat) (fls : List (Nat × Nat)) (hm : P.follows .mixedOrders = true) (hchk : chkB l κ hv flr n ord = true) (hfl : flsB l κ n fls = true)
    (C : CC) (hC : C { w with drawn := w.drawn + 1 } ρ) (hρ : ∀ i, ρ i = none) (hF : FLc P l N κ vf hv C)
    (h : PH P l N κ vf hv flr (fun f C => ∀ w ρ, C w ρ → (∀ p ∈ fls, (ρ p.1).isSome = true) → WL P l.toArray Q (l.drop n) (A N (wfl vf fls f ρ)) w) ord [] f0 C) : (Code.region id l.toArray true).wp P Q (A N f0) w := by
  have hk := Ck.of hchk
  refine wp_region_any hm ?_
  have hrep : ∀ i, (Array.replicate l.length false).getD i false = false := fun i => by
    rcases Nat.lt_or_ge i l.length with h | h
    · simp [h]
    · simp [Array.getElem?_eq_none, h]
  have iv : Iv P l N κ vf hv flr n ord (fun f C => ∀ w ρ, C w ρ → (∀ p ∈ fls, (ρ p.1).isSome = true) → WL P l.toArray Q (l.drop n) (A N (wfl vf fls f ρ)) w) f0 (Array.replicate l.length false) f0 { w with drawn := w.drawn + 1 } ord [] f0 C ρ := by
    refine ⟨h, hC, hF, List.suffix_refl _, fun i _ => hrep i, ?_, ?_, ?_, ?_, ?_, fun _ _ => rfl, fun _ _ => rfl, ?_, fun i _ _ _ => hρ i⟩
    · intro i hi hk2 hn; exact absurd (hk.all i hi (by rw [hk2]; simp)) hn
    · intro i hi hk2 hn; exact absurd (hk.all i hi (by rw [hk2]; simp)) hn
    · intro i hi hk2 hn; exact absurd (hk.all i hi (by rw [hk2]; simp)) hn
    · intro i d _ h; rw [hrep] at h; cases h
    · intro i d _ h; rw [hrep] at h; cases h
    · intro i _ _ p _ j hj hjq hjt _
      exact absurd (hk.all j hj (by rw [hjq]; simp)) hjt
  obtain ⟨t2, p2, f2, iv2, hd2⟩ := Iv.adv hk _ _ _ iv
  have hLs : Ls l (Array.replicate l.length false) := ⟨by simp, fun i o _ h => by rw [hrep] at h; cases h⟩
  have hsz : l.toArray.size = l.length := by simp
  rw [hsz]
  refine phase_any hk hfl (fun f C hT w ρ hc hs => ?_) l.length _ _ _ t2 p2 f2 C ρ iv2 hd2 hLs (fun i _ _ => hrep i) ?_
  · have := hT w ρ hc hs
    unfold WL at this
    exact this
  · unfold left
    have := List.countP_le_length (p := fun i => !(Array.replicate l.length false).getD i false) (l := List.range l.length)
    simpa using this
end
end Go.Sol

namespace Go.Sol
open Go.RowKit
set_option linter.unusedSimpArgs false
set_option linter.unusedVariables false
theorem hx_cons {ρ : Nat → Option Nat} {xs : List (Nat × Nat)} {j g : Nat} (h : ρ j = some g) (hx : ∀ p ∈ xs, ρ p.1 = some p.2) : ∀ p ∈ (j, g) :: xs, ρ p.1 = some p.2 := by
  intro p hp
  rcases List.mem_cons.1 hp with rfl | hp
  · exact h
  · exact hx p hp
theorem wfl_nil {vf : Nat → Nat → Value} {f : Nat → Value} {ρ : Nat → Option Nat} : wfl vf [] f ρ = updl f [] := rfl
theorem wfl_cons {vf : Nat → Nat → Value} {f : Nat → Value} {ρ : Nat → Option Nat} {i d g : Nat} {v : Value} {L : List (Nat × Nat)} {M : List (Nat × Value)} (hg : ρ i = some g) (hv : vf i g = v) (h : wfl vf L f ρ = updl f M) : wfl vf ((i, d) :: L) f ρ = updl f ((d, v) :: M) := by
  unfold wfl at *
  simp only [List.map_cons, updl, hg, Option.getD_some, hv, h]
def hvf (L : List (Nat × Nat × Value)) (i : Nat) : List (Nat × Value) := (L.filter fun q => q.1 == i).map (·.2)
theorem mk_run {P : Program} {w : World} {T e : TypeId} {sz by_ : Nat} {z : Value} {k1 k2 : IntKind} {m : Int} (hu : P.underlying T = some (.slice e)) (hi : (P.info? e).map (fun i => (i.size, i.bytes, i.zero)) = some (sz, by_, some z)) (h : 0 ≤ m ∧ (by_ : Int) * m ≤ 281474976710656) (h8 : 1 ≤ by_ := by decide) :
    (Instr.makeSlice T (.int k1 m) (.int k2 m)).run P w = .ok (.slice (some ⟨w.heap.size, 0, none⟩) m.toNat m.toNat) (w.alloc (.cells (madeCells z.cells (m.toNat * sz)) e)) := by
  obtain ⟨i, h1, h2⟩ := Option.map_eq_some_iff.1 hi
  simp only [Prod.mk.injEq] at h2
  obtain ⟨h2, h3, h4⟩ := h2
  have hb : m ≤ (by_ : Int) * m := by
    have h5 : (1 : Int) * m ≤ (by_ : Int) * m := Int.mul_le_mul_of_nonneg_right (by omega) h.1
    omega
  have := run_make (P := P) w T e i z hu h1 h4 k1 k2 m m h.1 (Int.le_refl _) (by rw [h3]; exact h.2) (by omega)
  rw [h2] at this
  exact this
abbrev Fl := Nat × TypeId × Array Value
def flb (fs : List Fl) (ρ : Nat → Option Nat) : List Bk := fs.filterMap fun p => (ρ p.1).map fun g => ⟨g, p.2.1, p.2.2⟩
def Cls (w : World) (N : NP) (bs : List Bk) (fs : List Fl) (xs : List (Nat × Nat)) : CC := fun w' ρ => (∀ p ∈ xs, ρ p.1 = some p.2) ∧ ∃ N', Nz w N w' N' ∧ Bx w' N' (flb fs ρ ++ bs)
def T.chk {α : Type} (a : Addr) (dec : α → Value) (x : α) (k : Tm) : Tm := fun w N => (∀ w' N', Nz w N w' N' → w'.cell? a = some (dec x)) ∧ Aft w N k
section
variable {w w' w'' : World} {N N' : NP} {bs : List Bk} {fs : List Fl} {xs : List (Nat × Nat)} {ρ : Nat → Option Nat}
theorem Cls.get (h : Cls w N bs fs xs w' ρ) (i : Nat) {g : Nat} {T : TypeId} {cs : Array Value} (hi : bs[i]? = some ⟨g, T, cs⟩) : w'.heap[g]? = some (.cells cs T (0, 0)) := by
  obtain ⟨_, N', _, B⟩ := h
  exact (B.ok _ (List.mem_append_right _ (List.mem_of_getElem? hi))).2
theorem Cls.below (h : Cls w N bs fs xs w' ρ) (hb : Below w'.heap.size w' w'') : Cls w N bs fs xs w'' ρ := by
  obtain ⟨hx, N', hz, B⟩ := h
  exact ⟨hx, N', hz.trans (Nz.of_below hb), B.quiet (Qt.of_below hb)⟩
theorem flb_none (fs : List Fl) : flb fs (fun _ => none) = [] := by
  unfold flb
  induction fs with
  | nil => rfl
  | cons p fs ih => simp [ih]
theorem Cls.start (B : Bx w N bs) : Cls w N bs fs [] { w with drawn := w.drawn + 1 } (fun _ => none) := by
  refine ⟨fun _ h => by simp at h, N, (Nz.refl w N).drew, ?_⟩
  rw [flb_none]
  exact B.drew
theorem Cls.now (hx : ∀ p ∈ xs, ρ p.1 = some p.2) (B : Bx w N (flb fs ρ ++ bs)) : Cls w N bs fs xs w ρ := ⟨hx, N, Nz.refl w N, B⟩
theorem flb_sub (fs : List Fl) (ρ ρ' : Nat → Option Nat) (h : ∀ i, ρ' i = ρ i ∨ ρ' i = none) : (flb fs ρ').Sublist (flb fs ρ) := by
  unfold flb
  induction fs with
  | nil => exact List.Sublist.refl _
  | cons p fs ih =>
    rcases h p.1 with e | e
    · cases hp : ρ p.1 with
      | none => simpa [e, hp] using ih
      | some g => simp only [List.filterMap_cons, e, hp, Option.map_some]; exact List.Sublist.cons_cons _ ih
    · cases hp : ρ p.1 with
      | none => simpa [e, hp] using ih
      | some g => simp only [List.filterMap_cons, e, hp, Option.map_some, Option.map_none]; exact List.Sublist.cons _ ih
theorem flb_set (fs : List Fl) (ρ : Nat → Option Nat) (i g : Nat) (hnd : (fs.map (·.1)).Nodup) :
    (∀ p ∈ fs, p.1 ≠ i) ∧ flb fs (fun j => if j = i then some g else ρ j) = flb fs (fun j => if j = i then none else ρ j) ∨
    ∃ p ∈ fs, p.1 = i ∧ List.Perm (flb fs (fun j => if j = i then some g else ρ j)) (⟨g, p.2.1, p.2.2⟩ :: flb fs (fun j => if j = i then none else ρ j)) := by
  induction fs with
  | nil => exact .inl ⟨fun _ h => by simp at h, rfl⟩
  | cons p fs ih =>
    simp only [List.map_cons, List.nodup_cons] at hnd
    by_cases hp : p.1 = i
    · refine .inr ⟨p, List.mem_cons_self, hp, ?_⟩
      have hno : ∀ q ∈ fs, q.1 ≠ i := fun q hq e => hnd.1 (List.mem_map.2 ⟨q, hq, e.trans hp.symm⟩)
      have e : flb fs (fun j => if j = i then some g else ρ j) = flb fs (fun j => if j = i then none else ρ j) := by
        unfold flb
        clear hnd ih
        induction fs with
        | nil => rfl
        | cons q fs ih =>
          have h1 : q.1 ≠ i := hno q List.mem_cons_self
          simp only [List.filterMap_cons, h1, if_false]
          rw [ih fun r hr => hno r (List.mem_cons_of_mem _ hr)]
      unfold flb at e ⊢
      simp only [List.filterMap_cons, hp, if_true, Option.map_some, Option.map_none, e]
      exact List.Perm.refl _
    · rcases ih hnd.2 with ⟨h1, h2⟩ | ⟨q, hq, hqi, hperm⟩
      · refine .inl ⟨fun q hq => (List.mem_cons.1 hq).elim (fun e => e ▸ hp) (h1 q), ?_⟩
        unfold flb at h2 ⊢
        simp only [List.filterMap_cons, hp, if_false, h2]
      · refine .inr ⟨q, List.mem_cons_of_mem _ hq, hqi, ?_⟩
        unfold flb at hperm ⊢
        simp only [List.filterMap_cons, hp, if_false]
        cases ρ p.1 with
        | none => exact hperm
        | some b => exact (List.Perm.cons _ hperm).trans (List.Perm.swap _ _ _)
theorem Bx.perm {bs' : List Bk} (h : Bx w N bs) (hp : List.Perm bs' bs) : Bx w N bs' :=
  ⟨h.lt, fun x hx => h.ok x (hp.subset hx), ((hp.map _).nodup_iff).2 h.nd⟩
theorem Cls.alloc {T : TypeId} {cs : Array Value} {i : Nat} (hnd : (fs.map (·.1)).Nodup) (hi : ∀ p ∈ fs, p.1 = i → p.2 = (T, cs)) (h : Cls w N bs fs xs w' ρ) (hn : ρ i = none) :
    Cls w N bs fs xs (w'.alloc (.cells cs T)) (fun j => if j = i then some w'.heap.size else ρ j) := by
  obtain ⟨hx, N', hz, B⟩ := h
  have hx' : ∀ p ∈ xs, (fun j => if j = i then some w'.heap.size else ρ j) p.1 = some p.2 := fun p hp => by
    have h1 := hx p hp
    have : p.1 ≠ i := fun e => by rw [e, hn] at h1; cases h1
    simp only [this, if_false]; exact h1
  have B0 : Bx w' N' (flb fs (fun j => if j = i then none else ρ j) ++ bs) := B.sub (List.Sublist.append (flb_sub fs ρ _ fun j => by by_cases e : j = i <;> simp [e]) (List.Sublist.refl _))
  rcases flb_set fs ρ i w'.heap.size hnd with ⟨_, e⟩ | ⟨p, hp, hpi, hperm⟩
  · have hb : Below w'.heap.size w' (w'.alloc (.cells cs T)) := (Below.refl _ _).alloc (Nat.le_refl _) _
    refine ⟨hx', N', hz.trans (Nz.of_below hb), ?_⟩
    rw [e]
    exact B0.quiet (Qt.of_below hb)
  · have hp2 := hi p hp hpi
    obtain ⟨w2, N2, g, hw2, hg, B2, H2⟩ := B0.new (k := fun w2 N2 => Nz w N w2 N2) (fun w2 N2 hn => hz.trans hn) T cs
    subst hw2 hg
    refine ⟨hx', N2, H2.now, B2.perm ?_⟩
    have : (p.2.1, p.2.2) = (T, cs) := hp2
    simp only [Prod.mk.injEq] at this
    rw [this.1, this.2] at hperm
    exact (List.Perm.append_right bs hperm)
end
section
variable {P : Program} {l : List Oper} {n d i : Nat} {κ : Nat → Ki} {vf : Nat → Nat → Value} {hv : Nat → List (Nat × Value)} {flr : Nat → List (Nat × Nat)} {Q : Exit → Act → World → Prop} {f : Nat → Value} {o : Oper} {w w' : World} {N N' : NP} {bs bs' : List Bk} {fs : List Fl} {xs : List (Nat × Nat)} {v : Value} {t pend : List Nat} {rest : List Oper} {fls : List (Nat × Nat)} {ρ : Nat → Option Nat}
theorem Cls.fl (hnd : (fs.map (·.1)).Nodup) (h : ∀ i, κ i = .a → ∀ o, l[i]? = some o → ∃ T cs, (∀ p ∈ fs, p.1 = i → p.2 = (T, cs)) ∧ ∀ w (g : Nat → Value), (∀ q ∈ hv i, g q.1 = q.2) → (execOp (A n g).eval o).run P w = .ok (.value (vf i w.heap.size)) (w.alloc (.cells cs T))) :
    FLc P l n κ vf hv (Cls w N bs fs xs) := by
  intro i o ho hk w' ρ hc hn g hg
  obtain ⟨T, cs, h1, h2⟩ := h i hk o ho
  exact ⟨_, h2 w' g hg, Cls.alloc hnd h1 hc hn⟩
@[irreducible] def PW (P : Program) (l : List Oper) (n : Nat) (κ : Nat → Ki) (vf : Nat → Nat → Value) (hv : Nat → List (Nat × Value)) (flr : Nat → List (Nat × Nat)) (Q : Exit → Act → World → Prop) (fls : List (Nat × Nat)) (rest : List Oper) (t pend : List Nat) (f : Nat → Value) (C : CC) : Prop :=
  PH P l n κ vf hv flr (fun f C => ∀ w ρ, C w ρ → (∀ p ∈ fls, (ρ p.1).isSome = true) → WL P l.toArray Q rest (A n (wfl vf fls f ρ)) w) t pend f C
theorem c_open {id : Nat} (m : Nat) (κ : Nat → Ki) (vf : Nat → Nat → Value) (hv : Nat → List (Nat × Value)) (flr : Nat → List (Nat × Nat)) (ord : List Nat) (fls : List (Nat × Nat)) (fs : List Fl) (rest : List Oper) (hm : P.follows .mixedOrders = true) (hchk : chkB l κ hv flr m ord = true) (hfl : flsB l κ m fls = true) (hr : l.drop m = rest)
    (B : Bx w N bs) (hF : FLc P l n κ vf hv (Cls w N bs fs [])) (h : PW P l n κ vf hv flr Q fls rest ord [] f (Cls w N bs fs [])) : (Code.region id l.toArray true).wp P Q (A n f) w := by
  subst hr
  unfold PW at h
  exact c_phase m κ vf hv flr ord fls hm hchk hfl _ (Cls.start B) (fun _ => rfl) hF h
theorem ph_nil (h : ∀ w' ρ N', Nz w N w' N' → (∀ p ∈ xs, ρ p.1 = some p.2) → Bx w' N' (flb fs ρ ++ bs) → (∀ p ∈ fls, (ρ p.1).isSome = true) → WL P l.toArray Q rest (A n (wfl vf fls f ρ)) w') : PW P l n κ vf hv flr Q fls rest [] pend f (Cls w N bs fs xs) := by
  unfold PW
  unfold PH
  rintro w' ρ ⟨hx, N', hz, B⟩ hs
  exact h w' ρ N' hz hx B hs
/-- no box in the heads -/
theorem ph_nil0 (h : ∀ w' N', Nz w N w' N' → Bx w' N' bs → WL P l.toArray Q rest (A n f) w') : PW P l n κ vf hv flr Q [] rest [] pend f (Cls w N bs [] []) :=
  ph_nil fun w' _ N' hz _ B _ => h w' N' hz B
theorem qy_val (hw : Region.wanted o (yielded l.toArray (fr n f)) = true) (hr : ∀ w' ρ, Cls w N bs fs xs w' ρ → (execOp (A n f).eval o).run P w' = .ok (.value v) w') : QY P l n o f (Cls w N bs fs xs) v :=
  .inl ⟨hw, fun w' ρ hc => by rw [hr w' ρ hc]; exact ⟨rfl, rfl⟩⟩
theorem qy_call {g : FuncId} {vs : Array Value} (hw : Region.wanted o (yielded l.toArray (fr n f)) = true) (hr : ∀ w' ρ, Cls w N bs fs xs w' ρ → (execOp (A n f).eval o).run P w' = .ok (.enter g vs) w')
    (hC : ∀ w' ρ, Cls w N bs fs xs w' ρ → Calls P g vs w' fun e w2 => e = .returned v ∧ Below w'.heap.size w' w2) : QY P l n o f (Cls w N bs fs xs) v :=
  .inl ⟨hw, fun w' ρ hc => by
    rw [hr w' ρ hc]
    exact ⟨rfl, (hC w' ρ hc).mono fun e w2 ⟨h1, h2⟩ => ⟨h1, hc.below h2⟩⟩⟩
def hvB (l : List Oper) (κ : Nat → Ki) (hv : Nat → List (Nat × Value)) (d : Nat) : Bool := (List.range l.length).all fun i => κ i != .a || (hv i).all fun p => p.1 != d
theorem hv_ok (hd : o.dst = some d) (h : hvB l κ hv d = true) : ∀ i', i' < l.length → κ i' = .a → ∀ p ∈ hv i', o.dst = some p.1 → v = p.2 := by
  intro i hi hk p hp he
  have := List.all_eq_true.1 h i (List.mem_range.2 hi)
  simp only [hk, bne_self_eq_false, Bool.false_or] at this
  have := List.all_eq_true.1 this p hp
  rw [hd] at he
  simp at this
  exact absurd (Option.some.inj he).symm this
theorem chk_hv {hs : List (Nat × Nat)} {L : List (Nat × Nat × Value)} {m : Nat} {ord : List Nat} (h : L.map (fun q => (q.1, q.2.1)) = hs) (hc : chkB l κ (hvf (hs.map fun q => (q.1, q.2, undef))) flr m ord = true) : chkB l κ (hvf L) flr m ord = true := by
  have e : ∀ i (p : Nat → Bool), ((hvf L i).all fun q => p q.1) = ((hvf (hs.map fun q => (q.1, q.2, undef)) i).all fun q => p q.1) := by
    intro i p
    subst h
    clear hc
    unfold hvf
    induction L with
    | nil => rfl
    | cons q L ih =>
      simp only [List.map_cons, List.filter_cons]
      by_cases hq : (q.1 == i) = true
      · simp only [hq, if_true, List.map_cons, List.all_cons]
        rw [ih]
      · simp only [hq, if_false]
        exact ih
  have e' := fun i => e i fun t => (List.range m).any fun j => κ j == .q && dst l j == some t && depB l i j
  unfold chkB at *
  simp only [e']
  exact hc
theorem hv_of {L : List (Nat × Nat × Value)} {o : Oper} {d : Nat} {v : Value} (h : ∀ q ∈ L, q.2.1 = d → v = q.2.2) (hd : o.dst = some d := by rfl) : ∀ i', i' < l.length → κ i' = .a → ∀ p ∈ hvf L i', o.dst = some p.1 → v = p.2 := by
  intro i _ _ p hp he
  unfold hvf at hp
  obtain ⟨q, hq, rfl⟩ := List.mem_map.1 hp
  rw [hd] at he
  exact h q (List.mem_filter.1 hq).1 (Option.some.inj he).symm
theorem ph_q (ho : l[i]? = some o) (hk : κ i = .q) (hd : o.dst = some d) (hh : ∀ i', i' < l.length → κ i' = .a → ∀ p ∈ hv i', o.dst = some p.1 → v = p.2) (hq : QY P l n o f (Cls w N bs fs xs) v)
    (h : PW P l n κ vf hv flr Q fls rest t (i :: pend) (upd f d v) (Cls w N bs fs xs)) : PW P l n κ vf hv flr Q fls rest (i :: t) pend f (Cls w N bs fs xs) := by
  unfold PW at *
  unfold PH
  rw [ho]
  simp only [hk]
  refine ⟨v, hq, hh, ?_⟩
  rw [hd]
  exact h
theorem ph_e {C : CC} (ho : l[i]? = some o) (hk : κ i = .e)
    (h : ∀ w ρ, C w ρ → (∀ p ∈ flr i, (ρ p.1).isSome = true) → EF P l n o (wfl vf (flr i) f ρ) w fun v w' => ∃ C' : CC, C' w' ρ ∧ FLc P l n κ vf hv C' ∧
          (∀ j ∈ pend, (mkB l i i []).contains j = true ∨ ∃ oj dj, l[j]? = some oj ∧ oj.dst = some dj ∧ QY P l n oj (upo f o.dst v) C' ((upo f o.dst v) dj)) ∧
          PW P l n κ vf hv flr Q fls rest t pend (upo f o.dst v) C') : PW P l n κ vf hv flr Q fls rest (i :: t) pend f C := by
  unfold PW at *
  unfold PH
  rw [ho]
  simp only [hk]
  exact h
theorem ef_call {g : FuncId} {vs : Array Value} {K : Value → World → Prop} (hw : Region.wanted o (yielded l.toArray (fr n f)) = true) (hr : (execOp (A n f).eval o).run P w = .ok (.enter g vs) w)
    (hC : Calls P g vs w fun e w' => ∃ v, e = .returned v ∧ K v w') : EF P l n o f w K := ⟨hw, by rw [hr]; exact hC⟩
theorem ef_val {K : Value → World → Prop} (hw : Region.wanted o (yielded l.toArray (fr n f)) = true) (hr : (execOp (A n f).eval o).run P w = .ok (.value v) w') (hK : K v w') : EF P l n o f w K := ⟨hw, by rw [hr]; exact hK⟩
theorem ef_skp {K : Value → World → Prop} (hw : Region.wanted o (yielded l.toArray (fr n f)) = true) (hr : (execOp (A n f).eval o).run P w = .ok .skip w') (hK : K undef w') : EF P l n o f w K := ⟨hw, by rw [hr]; exact hK⟩
/-- the reads that float across an effect -/
theorem pd_anc {f' : Nat → Value} {C' : CC} {re : List Nat} (h : pend.all (fun j => (mkB l i i []).contains j || re.contains j) = true) (hre : ∀ j ∈ re, ∃ oj dj, l[j]? = some oj ∧ oj.dst = some dj ∧ QY P l n oj f' C' (f' dj)) :
    ∀ j ∈ pend, (mkB l i i []).contains j = true ∨ ∃ oj dj, l[j]? = some oj ∧ oj.dst = some dj ∧ QY P l n oj f' C' (f' dj) := by
  intro j hj
  have := List.all_eq_true.1 h j hj
  rcases Bool.or_eq_true _ _ ▸ this with h1 | h1
  · exact .inl h1
  · exact .inr (hre j (by simpa using h1))
theorem re_nil {f' : Nat → Value} {C' : CC} : ∀ j ∈ ([] : List Nat), ∃ oj dj, l[j]? = some oj ∧ oj.dst = some dj ∧ QY P l n oj f' C' (f' dj) := fun j h => by simp at h
theorem re_cons {f' : Nat → Value} {C' : CC} {re : List Nat} (ho : l[i]? = some o) (hd : o.dst = some d) (hv : f' d = v) (hq : QY P l n o f' C' v) (h : ∀ j ∈ re, ∃ oj dj, l[j]? = some oj ∧ oj.dst = some dj ∧ QY P l n oj f' C' (f' dj)) :
    ∀ j ∈ i :: re, ∃ oj dj, l[j]? = some oj ∧ oj.dst = some dj ∧ QY P l n oj f' C' (f' dj) := by
  intro j hj
  rcases List.mem_cons.1 hj with rfl | hj
  · exact ⟨o, d, ho, hd, by rw [hv]; exact hq⟩
  · exact h j hj
theorem WL_frame {ops : Array Oper} {f' : Nat → Value} (he : f = f') (h : WL P ops Q rest (A n f') w) : WL P ops Q rest (A n f) w := by rw [he]; exact h
theorem EF_frame {f' : Nat → Value} {K : Value → World → Prop} (he : f = f') (h : EF P l n o f' w K) : EF P l n o f w K := by rw [he]; exact h
theorem at_idx' {s : Sl} {j : Int} {sz : Nat} {k : Addr → Tm} (H : Aft w N (T.idx s j sz k)) : ∃ ad pa, s.A = some ad ∧ 0 ≤ j ∧ j < s.n ∧ pa = ad.add (j.toNat * sz) ∧ Aft w N (k pa) := by
  obtain ⟨ad, h1, h2, h3, h4⟩ := at_idx H
  exact ⟨ad, _, h1, h2, h3, rfl, h4⟩
theorem ix' {T : TypeId} {k : IntKind} {e sz : Nat} {s : Sl} {ad pa : Addr} {j : Int} (hu : P.underlying T = some (.slice e)) (hi : (P.info? e).map (·.size) = some sz) (he : s.A = some ad) (h0 : 0 ≤ j) (h1 : j < s.n) (hp : pa = ad.add (j.toNat * sz)) :
    (Instr.indexAt T (Sl.v s) (.int k j)).run P w = .ok (.pointer (some pa)) w := by subst hp; exact ix hu hi he h0 h1
theorem Cls.ld {ad : Addr} (h : ∀ w' N', Nz w N w' N' → w'.cell? ad = some v) (hb : Cls w N bs fs xs w' ρ) : w'.cell? ad = some v := by
  obtain ⟨_, N', hz, _⟩ := hb
  exact h w' N' hz
theorem Cls.cq {X : World → Prop} (h : ∀ w' N', Nz w N w' N' → X w') (hb : Cls w N bs fs xs w' ρ) : X w' := by
  obtain ⟨_, N', hz, _⟩ := hb
  exact h w' N' hz
def kap (es aq : List Nat) (i : Nat) : Ki := bif es.contains i then .e else bif aq.contains i then .a else .q
theorem look_of {fs : List Fl} (hnd : (fs.map (·.1)).Nodup) {p : Fl} (hp : p ∈ fs) : fs.lookup p.1 = some p.2 := by
  induction fs with
  | nil => simp at hp
  | cons q fs ih =>
    simp only [List.map_cons, List.nodup_cons] at hnd
    rcases List.mem_cons.1 hp with rfl | hp
    · simp [List.lookup]
    · have : p.1 ≠ q.1 := fun e => hnd.1 (List.mem_map.2 ⟨p, hp, e⟩)
      have : (p.1 == q.1) = false := by simpa using this
      simp only [List.lookup, this]
      exact ih hnd.2 hp
def ALs (P : Program) (l : List Oper) (n : Nat) (vf : Nat → Nat → Value) (hv : Nat → List (Nat × Value)) (fs : List Fl) (aq : List Nat) : Prop :=
  ∀ i ∈ aq, ∀ o, l[i]? = some o → ∃ T cs, (fs.lookup i = none ∨ fs.lookup i = some (T, cs)) ∧ ∀ w (g : Nat → Value), (∀ q ∈ hv i, g q.1 = q.2) → (execOp (A n g).eval o).run P w = .ok (.value (vf i w.heap.size)) (w.alloc (.cells cs T))
theorem al_nil : ALs P l n vf hv fs [] := fun i h => by simp at h
theorem al_cons {aq : List Nat} {o : Oper} {T : TypeId} {cs : Array Value} (ho : l[i]? = some o) (hl : fs.lookup i = none ∨ fs.lookup i = some (T, cs)) (hr : ∀ w (g : Nat → Value), (∀ q ∈ hv i, g q.1 = q.2) → (execOp (A n g).eval o).run P w = .ok (.value (vf i w.heap.size)) (w.alloc (.cells cs T)))
    (h : ALs P l n vf hv fs aq) : ALs P l n vf hv fs (i :: aq) := by
  intro j hj o' ho'
  rcases List.mem_cons.1 hj with rfl | hj
  · rw [ho] at ho'
    obtain rfl := Option.some.inj ho'
    exact ⟨T, cs, hl, hr⟩
  · exact h j hj o' ho'
theorem flk {es aq : List Nat} (hnd : (fs.map (·.1)).Nodup) (h : ALs P l n vf hv fs aq) : FLc P l n (kap es aq) vf hv (Cls w N bs fs xs) := by
  refine Cls.fl hnd fun i hk o ho => ?_
  have hi : i ∈ aq := by
    unfold kap at hk
    cases h1 : es.contains i with
    | true => rw [h1] at hk; cases hk
    | false =>
      cases h2 : aq.contains i with
      | true => simpa using h2
      | false => rw [h1, h2] at hk; cases hk
  obtain ⟨T, cs, h1, h2⟩ := h i hi o ho
  refine ⟨T, cs, fun p hp hpi => ?_, h2⟩
  have := look_of hnd hp
  rw [hpi] at this
  rcases h1 with h1 | h1
  · rw [h1] at this; cases this
  · rw [h1] at this; exact (Option.some.inj this).symm
theorem at_ldcz {α : Type} {ad : Addr} {dec : α → Value} {k : α → Tm} (H : Aft w N (T.ldc ad dec k)) : ∃ x, (∀ w' N', Nz w N w' N' → w'.cell? ad = some (dec x)) ∧ Aft w N (k x) := H.now
theorem at_chk {α : Type} {ad : Addr} {dec : α → Value} {x : α} {k : Tm} (H : Aft w N (T.chk ad dec x k)) : (∀ w' N', Nz w N w' N' → w'.cell? ad = some (dec x)) ∧ Aft w N k := H.now
theorem at_callqz {α : Type} {g : FuncId} {vs : List Value} {dec : α → Value} {k : α → Tm} (H : Aft w N (Sol.T.callq P g vs dec k)) :
    ∃ x, (∀ w' N', Nz w N w' N' → Calls P g vs.toArray w' fun e w2 => e = .returned (dec x) ∧ Below w'.heap.size w' w2) ∧ Aft w N (k x) := H.now
end
end Go.Sol

namespace Go.Proofs.Ytboccoihmginiaa
open Go.RowKit Go.Sol
set_option linter.unusedVariables false
set_option linter.unusedSimpArgs false
theorem sz3 : (Try.prog.info? 3).map (·.size) = some 1 := by kernel_rfl
theorem sz5 : (Try.prog.info? 5).map (·.size) = some 1 := by kernel_rfl
theorem sz9 : (Try.prog.info? 9).map (·.size) = some 1 := by kernel_rfl
theorem sz23 : (Try.prog.info? 23).map (·.size) = some 1 := by kernel_rfl
theorem sz24 : (Try.prog.info? 24).map (·.size) = some 1 := by kernel_rfl
theorem sz26 : (Try.prog.info? 26).map (·.size) = some 3 := by kernel_rfl
theorem sz49 : (Try.prog.info? 49).map (·.size) = some 1 := by kernel_rfl
theorem sz70 : (Try.prog.info? 70).map (·.size) = some 3 := by kernel_rfl
theorem fld26_0 (w : World) (a : Addr) : (Instr.fieldAt 26 (.pointer (some a)) 0).run Try.prog w = .ok (.pointer (some (a.add 0))) w := by kernel_rfl
theorem fld26_1 (w : World) (a : Addr) : (Instr.fieldAt 26 (.pointer (some a)) 1).run Try.prog w = .ok (.pointer (some (a.add 1))) w := by kernel_rfl
theorem fld26_2 (w : World) (a : Addr) : (Instr.fieldAt 26 (.pointer (some a)) 2).run Try.prog w = .ok (.pointer (some (a.add 2))) w := by kernel_rfl
theorem fld51_0 (w : World) (a : Addr) : (Instr.fieldAt 51 (.pointer (some a)) 0).run Try.prog w = .ok (.pointer (some (a.add 0))) w := by kernel_rfl
theorem fld51_1 (w : World) (a : Addr) : (Instr.fieldAt 51 (.pointer (some a)) 1).run Try.prog w = .ok (.pointer (some (a.add 1))) w := by kernel_rfl
theorem fld51_2 (w : World) (a : Addr) : (Instr.fieldAt 51 (.pointer (some a)) 2).run Try.prog w = .ok (.pointer (some (a.add 2))) w := by kernel_rfl
theorem fld70_0 (w : World) (a : Addr) : (Instr.fieldAt 70 (.pointer (some a)) 0).run Try.prog w = .ok (.pointer (some (a.add 0))) w := by kernel_rfl
theorem fld70_1 (w : World) (a : Addr) : (Instr.fieldAt 70 (.pointer (some a)) 1).run Try.prog w = .ok (.pointer (some (a.add 1))) w := by kernel_rfl
theorem fld70_2 (w : World) (a : Addr) : (Instr.fieldAt 70 (.pointer (some a)) 2).run Try.prog w = .ok (.pointer (some (a.add 2))) w := by kernel_rfl
theorem al24 (w : World) : (Instr.alloc 24 true (.tuple #[])).run Try.prog w = .ok (.pointer (some ⟨w.heap.size, 0, none⟩)) (w.alloc (.cells #[Sl.v Sl.nil] 24)) := by kernel_rfl
theorem al26 (w : World) : (Instr.alloc 26 true (.tuple #[])).run Try.prog w = .ok (.pointer (some ⟨w.heap.size, 0, none⟩)) (w.alloc (.cells #[Sl.v Sl.nil, Sl.v Sl.nil, .int .i64 0] 26)) := by kernel_rfl
theorem al70 (w : World) : (Instr.alloc 70 true (.tuple #[])).run Try.prog w = .ok (.pointer (some ⟨w.heap.size, 0, none⟩)) (w.alloc (.cells #[.int .i64 0, .string (⟨#[]⟩ : ByteArray), Sl.v Sl.nil] 70)) := by kernel_rfl
theorem inf3 : (Try.prog.info? 3).map (fun i => (i.size, i.bytes, i.zero)) = some (1, 8, some (.int .i64 0)) := by kernel_rfl
theorem ca5 (vs : Array Value) (w : World) : (callFunc 5 vs).run Try.prog w = .ok (.enter 5 vs) w := by kernel_rfl
theorem ca6 (vs : Array Value) (w : World) : (callFunc 6 vs).run Try.prog w = .ok (.enter 6 vs) w := by kernel_rfl
theorem ca7 (vs : Array Value) (w : World) : (callFunc 7 vs).run Try.prog w = .ok (.enter 7 vs) w := by kernel_rfl
theorem ca8 (vs : Array Value) (w : World) : (callFunc 8 vs).run Try.prog w = .ok (.enter 8 vs) w := by kernel_rfl
theorem ca9 (vs : Array Value) (w : World) : (callFunc 9 vs).run Try.prog w = .ok (.enter 9 vs) w := by kernel_rfl
theorem ca10 (vs : Array Value) (w : World) : (callFunc 10 vs).run Try.prog w = .ok (.enter 10 vs) w := by kernel_rfl
theorem ca11 (vs : Array Value) (w : World) : (callFunc 11 vs).run Try.prog w = .ok (.enter 11 vs) w := by kernel_rfl
theorem ca12 (vs : Array Value) (w : World) : (callFunc 12 vs).run Try.prog w = .ok (.enter 12 vs) w := by kernel_rfl
theorem ca18 (vs : Array Value) (w : World) : (callFunc 18 vs).run Try.prog w = .ok (.enter 18 vs) w := by kernel_rfl
theorem ca19 (vs : Array Value) (w : World) : (callFunc 19 vs).run Try.prog w = .ok (.enter 19 vs) w := by kernel_rfl
theorem ca20 (vs : Array Value) (w : World) : (callFunc 20 vs).run Try.prog w = .ok (.enter 20 vs) w := by kernel_rfl
theorem ca21 (vs : Array Value) (w : World) : (callFunc 21 vs).run Try.prog w = .ok (.enter 21 vs) w := by kernel_rfl
theorem ca22 (vs : Array Value) (w : World) : (callFunc 22 vs).run Try.prog w = .ok (.enter 22 vs) w := by kernel_rfl
theorem ca23 (vs : Array Value) (w : World) : (callFunc 23 vs).run Try.prog w = .ok (.enter 23 vs) w := by kernel_rfl
theorem ca24 (vs : Array Value) (w : World) : (callFunc 24 vs).run Try.prog w = .ok (.enter 24 vs) w := by kernel_rfl
theorem ca25 (vs : Array Value) (w : World) : (callFunc 25 vs).run Try.prog w = .ok (.enter 25 vs) w := by kernel_rfl
theorem ca26 (vs : Array Value) (w : World) : (callFunc 26 vs).run Try.prog w = .ok (.enter 26 vs) w := by kernel_rfl
theorem ca27 (vs : Array Value) (w : World) : (callFunc 27 vs).run Try.prog w = .ok (.enter 27 vs) w := by kernel_rfl
theorem ca28 (vs : Array Value) (w : World) : (callFunc 28 vs).run Try.prog w = .ok (.enter 28 vs) w := by kernel_rfl
theorem ca29 (vs : Array Value) (w : World) : (callFunc 29 vs).run Try.prog w = .ok (.enter 29 vs) w := by kernel_rfl
theorem ca30 (vs : Array Value) (w : World) : (callFunc 30 vs).run Try.prog w = .ok (.enter 30 vs) w := by kernel_rfl
theorem ca31 (vs : Array Value) (w : World) : (callFunc 31 vs).run Try.prog w = .ok (.enter 31 vs) w := by kernel_rfl
theorem ca32 (vs : Array Value) (w : World) : (callFunc 32 vs).run Try.prog w = .ok (.enter 32 vs) w := by kernel_rfl
theorem ca33 (vs : Array Value) (w : World) : (callFunc 33 vs).run Try.prog w = .ok (.enter 33 vs) w := by kernel_rfl
theorem ca34 (vs : Array Value) (w : World) : (callFunc 34 vs).run Try.prog w = .ok (.enter 34 vs) w := by kernel_rfl
theorem ca35 (vs : Array Value) (w : World) : (callFunc 35 vs).run Try.prog w = .ok (.enter 35 vs) w := by kernel_rfl
theorem ca36 (vs : Array Value) (w : World) : (callFunc 36 vs).run Try.prog w = .ok (.enter 36 vs) w := by kernel_rfl
theorem ca47 (vs : Array Value) (w : World) : (callFunc 47 vs).run Try.prog w = .ok (.enter 47 vs) w := by kernel_rfl
theorem ca48 (vs : Array Value) (w : World) : (callFunc 48 vs).run Try.prog w = .ok (.enter 48 vs) w := by kernel_rfl
theorem ca49 (vs : Array Value) (w : World) : (callFunc 49 vs).run Try.prog w = .ok (.enter 49 vs) w := by kernel_rfl
theorem ca50 (vs : Array Value) (w : World) : (callFunc 50 vs).run Try.prog w = .ok (.enter 50 vs) w := by kernel_rfl
theorem ca51 (vs : Array Value) (w : World) : (callFunc 51 vs).run Try.prog w = .ok (.enter 51 vs) w := by kernel_rfl
theorem ca52 (vs : Array Value) (w : World) : (callFunc 52 vs).run Try.prog w = .ok (.enter 52 vs) w := by kernel_rfl
theorem ca53 (vs : Array Value) (w : World) : (callFunc 53 vs).run Try.prog w = .ok (.enter 53 vs) w := by kernel_rfl
theorem ca54 (vs : Array Value) (w : World) : (callFunc 54 vs).run Try.prog w = .ok (.enter 54 vs) w := by kernel_rfl
theorem ca55 (vs : Array Value) (w : World) : (callFunc 55 vs).run Try.prog w = .ok (.enter 55 vs) w := by kernel_rfl
theorem ca56 (vs : Array Value) (w : World) : (callFunc 56 vs).run Try.prog w = .ok (.enter 56 vs) w := by kernel_rfl
theorem ca57 (vs : Array Value) (w : World) : (callFunc 57 vs).run Try.prog w = .ok (.enter 57 vs) w := by kernel_rfl
theorem ca63 (vs : Array Value) (w : World) : (callFunc 63 vs).run Try.prog w = .ok (.enter 63 vs) w := by kernel_rfl
theorem ca64 (vs : Array Value) (w : World) : (callFunc 64 vs).run Try.prog w = .ok (.enter 64 vs) w := by kernel_rfl
theorem ca65 (vs : Array Value) (w : World) : (callFunc 65 vs).run Try.prog w = .ok (.enter 65 vs) w := by kernel_rfl
theorem ca66 (vs : Array Value) (w : World) : (callFunc 66 vs).run Try.prog w = .ok (.enter 66 vs) w := by kernel_rfl
theorem ca67 (vs : Array Value) (w : World) : (callFunc 67 vs).run Try.prog w = .ok (.enter 67 vs) w := by kernel_rfl
theorem ca68 (vs : Array Value) (w : World) : (callFunc 68 vs).run Try.prog w = .ok (.enter 68 vs) w := by kernel_rfl
theorem ca70 (vs : Array Value) (w : World) : (callFunc 70 vs).run Try.prog w = .ok (.enter 70 vs) w := by kernel_rfl
theorem ca72 (vs : Array Value) (w : World) : (callFunc 72 vs).run Try.prog w = .ok (.enter 72 vs) w := by kernel_rfl
theorem site0 (a0 : Sl) (w : World) : (Instr.build 51 #[(0, Sl.v a0)]).run Try.prog w = .ok (.agg #[Sl.v a0, .int .i64 0, .int .u64 0]) w := by kernel_rfl
theorem site1 (a0 : ByteArray) (a1 : ByteArray) (a2 : ByteArray) (a3 : ByteArray) (a4 : ByteArray) (w : World) : (Instr.buildSlice 32 5 #[(0, .string a0), (1, .string a1), (2, .string a2), (3, .string a3), (4, .string a4)]).run Try.prog w = .ok (.slice (some ⟨w.heap.size, 0, none⟩) 5 5) (w.alloc (.cells #[.string a0, .string a1, .string a2, .string a3, .string a4] 9)) := by kernel_rfl
theorem site2  (w : World) : (Instr.build 26 #[]).run Try.prog w = .ok (.agg #[Sl.v Sl.nil, Sl.v Sl.nil, .int .i64 0]) w := by kernel_rfl
theorem site3  (w : World) : (Instr.buildSlice 24 0 #[]).run Try.prog w = .ok (.slice (some ⟨w.heap.size, 0, none⟩) 0 0) (w.alloc (.cells #[] 3)) := by kernel_rfl
theorem site4  (w : World) : (Instr.buildSlice 32 0 #[]).run Try.prog w = .ok (.slice (some ⟨w.heap.size, 0, none⟩) 0 0) (w.alloc (.cells #[] 9)) := by kernel_rfl
theorem site5 (a0 : ByteArray) (w : World) : (Instr.buildSlice 32 1 #[(0, .string a0)]).run Try.prog w = .ok (.slice (some ⟨w.heap.size, 0, none⟩) 1 1) (w.alloc (.cells #[.string a0] 9)) := by kernel_rfl
theorem site6 (a0 : Sl) (a1 : Int) (w : World) : (Instr.build 26 #[(1, Sl.v a0), (2, .int .i64 a1)]).run Try.prog w = .ok (.agg #[Sl.v Sl.nil, Sl.v a0, .int .i64 a1]) w := by kernel_rfl
theorem site7 (a0 : Int) (a1 : ByteArray) (a2 : Sl) (w : World) : (Instr.buildSlice 23 1 #[(0, .agg #[.int .i64 a0, .string a1, Sl.v a2])]).run Try.prog w = .ok (.slice (some ⟨w.heap.size, 0, none⟩) 1 1) (w.alloc (.cells #[.int .i64 a0, .string a1, Sl.v a2] 70)) := by kernel_rfl
theorem site8  (w : World) : (Instr.build 70 #[]).run Try.prog w = .ok (.agg #[.int .i64 0, .string (⟨#[]⟩ : ByteArray), Sl.v Sl.nil]) w := by kernel_rfl
theorem site9 (a0 : Int) (w : World) : (Instr.buildSlice 24 1 #[(0, .int .i64 a0)]).run Try.prog w = .ok (.slice (some ⟨w.heap.size, 0, none⟩) 1 1) (w.alloc (.cells #[.int .i64 a0] 3)) := by kernel_rfl
theorem site10 (a0 : Int) (a1 : Sl) (w : World) : (Instr.build 26 #[(2, .int .i64 a0), (1, Sl.v a1)]).run Try.prog w = .ok (.agg #[Sl.v Sl.nil, Sl.v a1, .int .i64 a0]) w := by kernel_rfl
theorem site11 (a0 : Sl) (w : World) : (Instr.build 70 #[(2, Sl.v a0)]).run Try.prog w = .ok (.agg #[.int .i64 0, .string (⟨#[]⟩ : ByteArray), Sl.v a0]) w := by kernel_rfl
theorem site12 (a0 : Int) (w : World) : (Instr.build 70 #[(0, .int .i64 a0)]).run Try.prog w = .ok (.agg #[.int .i64 a0, .string (⟨#[]⟩ : ByteArray), Sl.v Sl.nil]) w := by kernel_rfl
theorem site13 (a0 : Int) (a1 : Int) (a2 : Int) (a3 : Int) (w : World) : (Instr.buildSlice 24 4 #[(0, .int .i64 a0), (1, .int .i64 a1), (2, .int .i64 a2), (3, .int .i64 a3)]).run Try.prog w = .ok (.slice (some ⟨w.heap.size, 0, none⟩) 4 4) (w.alloc (.cells #[.int .i64 a0, .int .i64 a1, .int .i64 a2, .int .i64 a3] 3)) := by kernel_rfl
end Go.Proofs.Ytboccoihmginiaa
