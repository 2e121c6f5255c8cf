/-
Helper texts: Helper text: a leaf put below a reference in the reference. Helper text: what is valid, in the reference. Helper text: each cell at one level, in the reference. Helper text: what is valid, in the reference: the whole. Helper text: a cell that is right by itself, in the program. Helper text: a reference checked and counted, in the program. Helper text: what is valid, in the program: the whole. Helper text: what the program's check keeps. Helper text: the program's check walked. Helper text: the kids of a cell of the line. Helper text: the line of the program's check. Helper text: the program's check: the roots, the whole. Helper text: what makes a state valid, told by levels and counts. Helper text: the reference's check comes to what makes a state valid. Helper text: the program's check comes to the same. Helper text: both checks agree. Helper text: what holds while a leaf is put: references are counted. Helper text: a cell of one's own keeps what holds. Helper text: a leaf put: what holds is kept, the leaf is there, others stay. Helper text: a leaf put: the whole way. Helper text: a leaf put in a valid state: what the callees ask, and what comes of it. Helper text: PutLeaf, in the program and in the reference. Helper text: FnExactPutLeaf walked. Helper text: choices read from bytes. Helper text: pictures made, taken and dropped, in the reference: the shapes that are kept. Helper text: a drawn state. No condition.
-/
import Derived.Test.YtboccoihmginiaaP4
namespace Go.Proofs.Ytboccoihmginiaa
open Go.RowKit Go.Sol
set_option linter.unusedVariables false
set_option linter.unusedSimpArgs false
theorem maxF_lt {m : Int} {xs : List Int} : maxF m xs < 0 ↔ m < 0 ∧ ∀ x ∈ xs, x < 0 := by
  induction xs generalizing m with
  | nil => simp [maxF]
  | cons x xs ih =>
    have := ih (m := if m < x then x else m)
    unfold maxF at this ⊢
    rw [List.foldl_cons, this]
    simp only [List.mem_cons, forall_eq_or_imp]
    constructor
    · rintro ⟨h1, h2⟩
      split at h1 <;> exact ⟨by omega, by omega, h2⟩
    · rintro ⟨h1, h2, h3⟩
      refine ⟨?_, h3⟩
      split <;> omega
theorem maxI_lt {xs : List Int} (h : xs ≠ []) : maxI xs < 0 ↔ ∀ x ∈ xs, x < 0 := by
  cases xs with
  | nil => exact absurd rfl h
  | cons x xs => rw [maxI, maxF_lt]; simp
theorem l14Put_ok {at_ : Nat} {leaf : ByteArray} : ∀ (lv : Nat) (hl : lv ≤ 3) (h1 : 1 ≤ lv) (w : World) (a b : Sl) (gs : List GC) (L : Int) (k : Int) (o : Own w NO (cowCh a gs)) (hp : PutOk at_ leaf lv (pcs gs) k),
    Calls Try.prog 31 #[.agg #[Sl.v a, Sl.v b, .int .i64 L], .int .i64 k, .int .i64 lv, .int .i64 ((at_ % 4 ^ (lv - 1) : Nat) : Int), .string leaf] w fun e w' => ∃ (y : Sl × Sl × Int × Int) (cs1 : List Ch), e = .returned (tup4 y) ∧
      (y.2.1 = b ∧ y.2.2.1 = L ∧ ∃ gs', (pcs gs', y.2.2.2) = putP at_ leaf lv (pcs gs) k ∧ cs1 = cowCh y.1 gs') ∧ Res w (cowCh a gs) w' cs1
  | 0, _, h1 => by omega
  | lv + 1, hl, _ => by
    intro w a b gs L k o hp
    obtain ⟨hnk, hown, hlt, hp⟩ := hp
    refine run_ok (fun R => f31_spec_l14Put.ok R a b L k ((lv + 1 : Nat) : Int) _ leaf w) _ o tup4 (fun y cs1 => y.2.1 = b ∧ y.2.2.1 = L ∧ ∃ gs', (pcs gs', y.2.2.2) = putP at_ leaf (lv + 1) (pcs gs) k ∧ cs1 = cowCh y.1 gs') fun R hR w1 N1 st => ?_
    have hR2 : ∀ (a' : Sl) (y : Int) (gs' : List GC) w' N', Stt w (cowCh a gs) (cowCh a' gs' ++ []) w' N' → (pcs gs', y) = putP at_ leaf (lv + 1) (pcs gs) k → T.ret R (.tuple #[.agg #[Sl.v a', Sl.v b, .int .i64 L], .int .i64 y]) w' N' :=
      fun a' y gs' w' N' st he => hR (a', b, L, y) _ _ _ _ (st.eq (List.append_nil _)) ⟨rfl, rfl, gs', he, rfl⟩ rfl
    clear hR
    have go : f31_spec_l14Put.J1 R a b L k ((lv + 1 : Nat) : Int) ((at_ % 4 ^ (lv + 1 - 1) : Nat) : Int) leaf false w1 N1 := by
      unfold f31_spec_l14Put.J1
      refine t_itef rfl ?_
      refine t_call (cs := cowCh a gs) (rest := []) (st.eq (List.append_nil _).symm) (fun o => l14Ours_ok (m := lv + 1) o (by omega) hown) fun y cs1 w2 N2 hq st => ?_
      obtain ⟨hy, gs1, hg1, rfl⟩ := hq
      obtain ⟨a1, y2, y3, y4⟩ := y
      simp only [Prod.mk.injEq] at hy
      obtain ⟨rfl, rfl, rfl⟩ := hy
      rw [putP] at hR2
      rw [← hg1] at hR2 hp hlt
      generalize (ownP (pcs gs) k (lv + 1)).2 = i at *
      rw [pcs_len] at hlt
      have hg : gs1[i]? = some gs1[i] := List.getElem?_eq_getElem hlt
      rw [pcs_getD hlt] at hR2 hp
      simp only at st
      obtain ⟨ad, hA, hlt2⟩ := cow_ad st hlt
      refine t_ite (fun h => ?_) (fun h => ?_)
      · have hlv : lv = 0 := by simp at h; omega
        subst hlv
        rw [if_pos rfl] at hR2
        unfold f31_spec_l14Put.J2
        dsimp only
        rw [bytes_beq]
        refine t_ite (fun h2 => ?_) (fun h2 => ?_)
        · have hle : leaf = ⟨#[]⟩ := by simpa using h2
          refine t_idx' (i * 3) hA (by omega) hlt2 (by simp) ?_
          refine t_setc (k := []) (s := Sl.nil) (rest := []) ((st.triv 3 1 Sl.nil rfl rfl).perm List.perm_middle) hA hg fun w2 N2 st => ?_
          refine hR2 a1 _ _ _ _ st ?_
          rw [endP]
          have : ((pcs gs1).set i (setL gs1[i].1 leaf)).getD i noP = setL gs1[i].1 leaf := by simp [hlt]
          rw [this, if_pos ⟨hle, .inl rfl⟩, pcs_set, List.set_set]; rfl
        · have hle : leaf ≠ ⟨#[]⟩ := by simpa using h2
          refine t_itet (by simp) ?_
          refine t_idx' (i * 3) hA (by omega) hlt2 (by simp) ?_
          refine t_c1 st hA hg fun w2 N2 st => ?_
          refine hR2 a1 _ _ _ _ st ?_
          rw [endP]
          have : ((pcs gs1).set i (setL gs1[i].1 leaf)).getD i noP = setL gs1[i].1 leaf := by simp [hlt]
          rw [this, if_neg (fun h => hle h.1), pcs_set]; rfl
      · have hlv : lv ≠ 0 := fun e => by simp [e] at h
        obtain ⟨m, rfl⟩ : ∃ m, lv = m + 1 := ⟨lv - 1, by omega⟩
        rw [if_neg hlv] at hR2
        obtain ⟨h4, hpr, hlt3, h43, hle3⟩ := hp hlv
        have hdl := dig_lt at_ (m + 1 + 1)
        unfold f31_spec_l14Put.J2
        dsimp only
        refine t_itef rfl (t_itef h ?_)
        refine t_callp st (l14Size_ok (lv := m + 1 + 1) (by omega) (by omega)) fun w2 N2 st => ?_
        refine t_idx' (i * 3) hA (by omega) hlt2 (by simp) ?_
        refine t_ldc (x := gs1[i].2) st (fun w' N' st => cow_c2 st hA hg) fun w2 N2 st => ?_
        have hpm : 4 ^ m ≤ 64 := Nat.pow_le_pow_right (show 0 < 4 by omega) (show m ≤ 3 by omega)
        have hpos : 0 < 4 ^ m := Nat.pow_pos (by omega)
        have hq : IntKind.i64.wrap (((4 ^ (m + 1 + 1 - 1) : Nat) : Int).tdiv 4) = ((4 ^ m : Nat) : Int) := by
          have : ((4 ^ (m + 1 + 1 - 1) : Nat) : Int).tdiv 4 = ((4 ^ m : Nat) : Int) := by
            rw [show m + 1 + 1 - 1 = m + 1 by omega, Nat.pow_succ, Int.tdiv_eq_ediv_of_nonneg (by omega)]
            omega
          rw [this, w64i (by omega) (by omega)]
        rw [hq]
        have hdg : (at_ % 4 ^ (m + 1 + 1 - 1)) / 4 ^ m = dig at_ (m + 1 + 1) := by
          rw [show m + 1 + 1 - 1 = m + 1 by omega, Nat.pow_succ, Nat.mod_mul_right_div_self]; rfl
        have hd2 : IntKind.i64.wrap (((at_ % 4 ^ (m + 1 + 1 - 1) : Nat) : Int).tdiv ((4 ^ m : Nat) : Int)) = (dig at_ (m + 1 + 1) : Int) := by
          rw [Int.tdiv_eq_ediv_of_nonneg (by omega), ← Int.natCast_ediv, hdg, w64i (by omega) (by omega)]
        rw [hd2]
        have hne : ((4 ^ m : Nat) : Int) ≠ 0 := by omega
        refine t_ass hne ?_
        have hkn : gs1[i].2.n = 4 := by have := (kid_rd st hg).n1; simp at this; omega
        obtain ⟨kd, hK, hkc⟩ := (kid_rd st hg).addr (i := dig at_ (m + 1 + 1)) (by omega)
        refine t_idx' (dig at_ (m + 1 + 1)) hK (by omega) (by omega) (by simp) ?_
        refine t_ldc (x := kidAt gs1[i].1 (dig at_ (m + 1 + 1))) st (fun w' N' st => by
          obtain ⟨kd', hK', hkc'⟩ := (kid_rd st hg).addr (i := dig at_ (m + 1 + 1)) (by omega)
          rw [hK] at hK'; obtain rfl := Option.some.inj hK'
          exact hkc' _ _ (ints_at (kid_get (by omega)))) fun w2 N2 st => ?_
        refine t_ass hne ?_
        have hmod : ((at_ % 4 ^ (m + 1 + 1 - 1) : Nat) : Int).tmod ((4 ^ m : Nat) : Int) = ((at_ % 4 ^ (m + 1 - 1) : Nat) : Int) := by
          rw [Int.tmod_eq_emod_of_nonneg (by omega), ← Int.natCast_emod, show m + 1 + 1 - 1 = m + 1 by omega, Nat.pow_succ, Nat.mod_mul_right_mod]; rfl
        rw [hmod, w64i (x := ((m + 1 + 1 : Nat) : Int) - 1) (by omega) (by omega), show ((m + 1 + 1 : Nat) : Int) - 1 = ((m + 1 : Nat) : Int) by omega]
        refine t_call (cs := cowCh a1 gs1) (rest := []) st (fun o => l14Put_ok (m + 1) (by omega) (by omega) _ _ _ _ _ _ o hpr) fun y cs1 w2 N2 hq st => ?_
        obtain ⟨y1, y2, gs2, hq, rfl⟩ := hq
        obtain ⟨a2, b2, L2, y⟩ := y
        simp only at y1 y2 hq st ⊢
        subst y1 y2
        rw [← hq] at hR2 hlt3 h43 hle3
        simp only at hR2 hlt3 h43 hle3
        rw [pcs_len] at hlt3
        rw [pcs_getD hlt3] at hR2 h43 hle3
        have hg2 : gs2[i]? = some gs2[i] := List.getElem?_eq_getElem hlt3
        obtain ⟨ad2, hA2, hlt4⟩ := cow_ad st hlt3
        refine t_idx' (i * 3) hA2 (by omega) hlt4 (by simp) ?_
        refine t_ldc (x := gs2[i].2) st (fun w' N' st => cow_c2 st hA2 hg2) fun w2 N2 st => ?_
        refine t_ass hne ?_
        have hkn2 : gs2[i].2.n = 4 := by have := (kid_rd st hg2).n1; simp at this; omega
        obtain ⟨kd2, hK2, _⟩ := (kid_rd st hg2).addr (i := dig at_ (m + 1 + 1)) (by omega)
        refine t_idx' (dig at_ (m + 1 + 1)) hK2 (by omega) (by omega) (by simp) ?_
        refine t_kid st hg2 hK2 (by omega) fun w2 N2 st => ?_
        have hl3 : i < (gs2.set i (setK gs2[i].1 (dig at_ (m + 1 + 1)) y, gs2[i].2)).length := by simpa using hlt3
        have hg3 : (gs2.set i (setK gs2[i].1 (dig at_ (m + 1 + 1)) y, gs2[i].2))[i]? = some (setK gs2[i].1 (dig at_ (m + 1 + 1)) y, gs2[i].2) := List.getElem?_set_self hlt3
        have hk4 : (setK gs2[i].1 (dig at_ (m + 1 + 1)) y).k.length = 4 := by simp [setK, h43]
        have hend : endP (m + 1) ((pcs gs2).set i (setK gs2[i].1 (dig at_ (m + 1 + 1)) y)) i = if maxI (setK gs2[i].1 (dig at_ (m + 1 + 1)) y).k < 0 then (((pcs gs2).set i (setK gs2[i].1 (dig at_ (m + 1 + 1)) y)).set i noP, -1) else ((pcs gs2).set i (setK gs2[i].1 (dig at_ (m + 1 + 1)) y), (i : Int)) := by
          have : ((pcs gs2).set i (setK gs2[i].1 (dig at_ (m + 1 + 1)) y)).getD i noP = setK gs2[i].1 (dig at_ (m + 1 + 1)) y := by simp [hlt3]
          rw [endP, this]
          have hl0 : (setK gs2[i].1 (dig at_ (m + 1 + 1)) y).l = ⟨#[]⟩ := hle3
          by_cases hm : maxI (setK gs2[i].1 (dig at_ (m + 1 + 1)) y).k < 0
          · rw [if_pos ⟨hl0, .inr hm⟩, if_pos hm]
          · rw [if_neg (fun h => h.2.elim (by omega) hm), if_neg hm]
        rw [hend] at hR2
        have hps : pcs (gs2.set i (setK gs2[i].1 (dig at_ (m + 1 + 1)) y, gs2[i].2)) = (pcs gs2).set i (setK gs2[i].1 (dig at_ (m + 1 + 1)) y) := pcs_set _ _ _
        rw [← hps] at hR2
        generalize gs2.set i (setK gs2[i].1 (dig at_ (m + 1 + 1)) y, gs2[i].2) = gs3 at *
        generalize hc3 : setK gs2[i].1 (dig at_ (m + 1 + 1)) y = c3 at *
        obtain ⟨ad3, hA3, hlt5⟩ := cow_ad st hl3
        refine t_idx' (i * 3) hA3 (by omega) hlt5 (by simp) ?_
        refine t_ldc (x := gs2[i].2) st (fun w' N' st => cow_c2 (g := (c3, gs2[i].2)) st hA3 hg3) fun w2 N2 st => ?_
        refine t_loop (fun (j : Nat) (s : Int) => s = (j : Int) ∧ j ≤ 4 ∧ ∀ x ∈ c3.k.take j, x < 0) (fun _ _ => cowCh a2 gs3 ++ []) (fun j _ => 4 - j) 0 st ⟨rfl, by omega, by simp⟩ ?_
        rintro j s w2 N2 next ⟨rfl, hj, hall⟩ st hn
        show f31_spec_l14Put.L3 R _ _ _ (j : Int) _ w2 N2
        unfold f31_spec_l14Put.L3
        dsimp only
        refine t_ite (fun h => ?_) (fun h => ?_)
        · have hj4 : j < 4 := by simp [hkn2] at h; omega
          have hjl : j < c3.k.length := by omega
          obtain ⟨kd3, hK3, _⟩ := (kid_rd st hg3).addr (i := j) (by simp only; omega)
          simp only at hK3
          refine t_idx' j hK3 (by omega) (by omega) (by simp) ?_
          refine t_ldc (x := c3.k[j]) st (fun w' N' st => by
            obtain ⟨kd', hK', hkc'⟩ := (kid_rd st hg3).addr (i := j) (by simp only; omega)
            simp only at hK'
            rw [hK3] at hK'; obtain rfl := Option.some.inj hK'
            exact hkc' _ _ (ints_at (by simp [hjl]))) fun w2 N2 st => ?_
          refine t_ite (fun h2 => ?_) (fun h2 => ?_)
          · have hx : 0 ≤ c3.k[j] := by simpa using h2
            refine hR2 a2 _ _ _ _ st ?_
            rw [if_neg]
            rw [maxI_lt (fun e => by rw [e] at hjl; simp at hjl)]
            intro hall2
            have := hall2 c3.k[j] (List.getElem_mem hjl)
            omega
          · show next _ _ _
            rw [w64s (by simp only [maxLen]; omega)]
            refine hn (j + 1) _ _ _ ⟨rfl, hj4, fun x hx => ?_⟩ (by omega) st
            rw [List.take_succ_eq_append_getElem hjl] at hx
            rcases List.mem_append.1 hx with hx | hx
            · exact hall x hx
            · simp at hx; subst hx; simpa using h2
        · have hj4 : j = 4 := by simp [hkn2] at h; omega
          subst hj4
          have hmx : maxI c3.k < 0 := by
            rw [maxI_lt (fun e => by rw [e] at hk4; simp at hk4)]
            rw [← hk4, List.take_length] at hall
            exact hall
          rw [if_pos hmx] at hR2
          refine t_idx' (i * 3) hA3 (by omega) hlt5 (by simp) ?_
          refine t_setc (k := []) (s := Sl.nil) (rest := []) ((st.triv 3 1 Sl.nil rfl rfl).perm List.perm_middle) hA3 hg3 fun w2 N2 st => ?_
          refine hR2 a2 _ _ _ _ st ?_
          rw [pcs_set]; rfl
    refine t_ite (fun h => ?_) (fun h => ?_)
    · rw [bytes_beq] at h
      have hk0 := hnk (by simpa using h)
      have : decide (k < 0) = false := decide_eq_false (by omega)
      rw [this]; exact go
    · exact go
end Go.Proofs.Ytboccoihmginiaa

namespace Go.Proofs.Ytboccoihmginiaa
open Go.RowKit Go.Sol
set_option linter.unusedVariables false
set_option linter.unusedSimpArgs false
/-- a row of kids, checked one behind the other -/
def kidsP (f : Int → List Int → Bool × List Int) : List Int → List Int → Bool × List Int
  | [], s => (true, s)
  | x :: xs, s => if (f x s).1 then kidsP f xs (f x s).2 else (false, (f x s).2)
def anyNN (xs : List Int) : Bool := xs.any fun x => decide (0 ≤ x)
def deepP (cs : List PC) : Nat → Int → List Int → Bool × List Int
  | 0, _, s => (true, s)
  | lv + 1, k, s =>
    if k = -1 then (true, s)
    else if ¬(0 ≤ k ∧ k ≤ (cs.length : Int) - 1) then (false, s)
    else if 1 < s.getD k.toNat 0 + 1 then (true, s.set k.toNat (s.getD k.toNat 0 + 1))
    else if lv = 0 then (decide ((cellAt cs k).k.length = 0 ∧ 1 ≤ (cellAt cs k).l.size ∧ (cellAt cs k).l.size ≤ 8), s.set k.toNat (s.getD k.toNat 0 + 1))
    else
      let r := kidsP (deepP cs lv) (cellAt cs k).k (s.set k.toNat (s.getD k.toNat 0 + 1))
      (r.1 && (anyNN (cellAt cs k).k && decide ((cellAt cs k).k.length = 4 ∧ (cellAt cs k).l = ⟨#[]⟩)), r.2)
def incN : Nat → Int
  | 0 => 0
  | lv + 1 => 1 + 1048576 * incN lv
theorem incN_le {lv : Nat} (h : lv ≤ 3) : 0 ≤ incN lv ∧ incN lv ≤ 1099512676353 := by
  have : lv = 0 ∨ lv = 1 ∨ lv = 2 ∨ lv = 3 := by omega
  rcases this with rfl | rfl | rfl | rfl <;> decide
def SB (B : Int) (s : List Int) : Prop := ∀ x ∈ s, 0 ≤ x ∧ x ≤ B
theorem SB.mono {B B' : Int} {s : List Int} (h : SB B s) (hB : B ≤ B') : SB B' s := fun x hx => ⟨(h x hx).1, Int.le_trans (h x hx).2 hB⟩
theorem SB.set {B : Int} {s : List Int} (h : SB B s) (i : Nat) {v : Int} (h0 : 0 ≤ v) (h1 : v ≤ B) : SB B (s.set i v) := by
  intro x hx
  rcases List.mem_or_eq_of_mem_set hx with h2 | rfl
  · exact h x h2
  · exact ⟨h0, h1⟩
/-- not among the rows F -/
def Apt (s : Sl) (F : List Nat) : Prop := s.n = 0 ∨ ∀ ad, s.A = some ad → ad.block ∉ F
theorem Apt.rd {s : Sl} {F : List Nat} {sz : Nat} (h : Apt s F) : s.n = 0 ∨ sz = 0 ∨ ∀ ad, s.A = some ad → ad.block ∉ F := h.elim .inl fun h => .inr (.inr h)
theorem Rd.apt {w : World} {sz : Nat} {s : Sl} {xs : List Value} {F : List Nat} (h : Rd w sz s xs) (h0 : 0 < sz) (hF : ∀ b ∈ F, w.heap.size ≤ b) : Apt s F := by
  rcases h.2.2 with hn | ⟨ad, hA, hc⟩
  · exact .inl hn
  · by_cases hn : s.n = 0
    · exact .inl hn
    · refine .inr fun ad' hA' hm => ?_
      rw [hA] at hA'
      obtain rfl := Option.some.inj hA'
      have hl : 0 < xs.length := by rw [h.1]; exact Nat.mul_pos (by omega) h0
      have := hc 0 xs[0] (by simp [hl])
      have hb := World.block_lt_of_cell? w _ this
      rw [add_block] at hb
      have := hF _ hm
      omega
theorem l14Deep_ok {a b sn : Sl} {gs : List GC} {L : Int} (hkl : ∀ g ∈ gs, g.1.k.length ≤ 1048576) : ∀ (lv : Nat) (hl : lv ≤ 3) (h1 : 1 ≤ lv) (w : World) (h : RC w a gs) (k : Int) (s : List Int) (B : Int) (hB : B + incN lv ≤ 4611686018427387904) (hs : SB B s) (hsl : s.length = gs.length) (hF : Apt a sn.fp) (hF2 : ∀ g ∈ gs, Apt g.2 sn.fp) (o : Own w NO [⟨3, 1, sn, ints s⟩]),
    Calls Try.prog 35 #[.agg #[Sl.v a, Sl.v b, .int .i64 L], .int .i64 k, .int .i64 lv, Sl.v sn] w fun e w' => ∃ (y : Bool) (cs1 : List Ch), e = .returned (.bool y) ∧ ((y, 0) = ((deepP (pcs gs) lv k s).1, 0) ∧ SB (B + incN lv) (deepP (pcs gs) lv k s).2 ∧ (deepP (pcs gs) lv k s).2.length = gs.length ∧ cs1 = [⟨3, 1, sn, ints (deepP (pcs gs) lv k s).2⟩]) ∧ Res w [⟨3, 1, sn, ints s⟩] w' cs1
  | 0, _, h1 => by omega
  | lv + 1, hl, _ => by
    intro w h k s B hB hs hsl hF hF2 o
    have hna := h.n
    have hi1 := incN_le (lv := lv) (by omega)
    have hm := h.hd.2.1
    have hsn : sn.n = gs.length := by have := (o.ok _ (List.mem_singleton_self _)).rd.n1; simp only [ints_len] at this; omega
    have hfps : fps [(⟨3, 1, sn, ints s⟩ : Ch)] = sn.fp := by simp [fps]
    refine run_ok (fun R => f35_spec_l14Deep.ok R a b L k ((lv + 1 : Nat) : Int) sn w) _ o Value.bool (fun y cs1 => (y, 0) = ((deepP (pcs gs) (lv + 1) k s).1, 0) ∧ SB (B + incN (lv + 1)) (deepP (pcs gs) (lv + 1) k s).2 ∧ (deepP (pcs gs) (lv + 1) k s).2.length = gs.length ∧ cs1 = [⟨3, 1, sn, ints (deepP (pcs gs) (lv + 1) k s).2⟩]) fun R hR w1 N1 st => ?_
    have hR2 : ∀ (y : Bool) (s' : List Int) w' N', Stt w [⟨3, 1, sn, ints s⟩] [⟨3, 1, sn, ints s'⟩] w' N' → deepP (pcs gs) (lv + 1) k s = (y, s') → SB (B + incN (lv + 1)) s' → s'.length = gs.length → T.ret R (.bool y) w' N' := fun y s' w' N' st he hb hl => hR y _ _ _ _ st ⟨by rw [he], by rw [he]; exact hb, by rw [he]; exact hl, by rw [he]⟩ rfl
    clear hR
    have hinc : incN (lv + 1) = 1 + 1048576 * incN lv := rfl
    unfold f35_spec_l14Deep.T
    refine t_ite (fun hk => ?_) (fun hk => ?_)
    · have hk : k = -1 := by simpa using hk
      exact hR2 _ _ _ _ st (by rw [deepP, if_pos hk]) (hs.mono (by omega)) hsl
    have hk : k ≠ -1 := by simpa using hk
    rw [w64i (x := (a.n : Int) - 1) (by omega) (by simp only [maxLen] at hm; omega)]
    refine t_callp st (l1In_ok _ _ _) fun w2 N2 st => ?_
    refine t_ite (fun h2 => ?_) (fun h2 => ?_)
    · have hno : ¬ (0 ≤ k ∧ k ≤ (a.n : Int) - 1) := by simp only [Bool.not_eq_true', decide_eq_false_iff_not] at h2; exact h2
      exact hR2 _ _ _ _ st (by rw [deepP, if_neg hk, if_pos (by rw [pcs_len]; rw [hna] at hno; exact hno)]) (hs.mono (by omega)) hsl
    have hyes : 0 ≤ k ∧ k ≤ (a.n : Int) - 1 := by simp only [Bool.not_eq_false', decide_eq_true_eq] at h2; exact h2
    obtain ⟨i, rfl⟩ : ∃ i : Nat, k = (i : Int) := ⟨k.toNat, by omega⟩
    have hil : i < gs.length := by omega
    have hcell := cellAt_pcs hil
    have his : i < s.length := by omega
    have hgd : s.getD i 0 = s[i] := by simp [his]
    have hsi := hs s[i] (List.getElem_mem his)
    obtain ⟨sd, hS, _⟩ := (o.ok _ (List.mem_singleton_self _)).rd.addr (i := i) (by simp only; omega)
    simp only at hS
    refine t_idx' i hS (by omega) (by omega) (by simp) ?_
    refine t_ldc (x := s[i]) st (fun w' N' st => st.cell (i := 0) rfl hS (ints_at (by simp [his]))) fun w2 N2 st => ?_
    refine t_idx' i hS (by omega) (by omega) (by simp) ?_
    rw [w64i (x := s[i] + 1) (by omega) (by omega)]
    refine t_stc (i := 0) (j := i) st rfl hS (by simp only [ints_len]; exact his) rfl fun w2 N2 st => ?_
    have e1 : (ints s).set i (.int .i64 (s[i] + 1)) = ints (s.set i (s[i] + 1)) := by simp [ints, List.map_set]
    simp only [List.set_cons_zero] at st
    rw [e1] at st
    have hs1 : SB (B + 1) (s.set i (s[i] + 1)) := (hs.mono (by omega)).set i (by omega) (by omega)
    refine t_idx' i hS (by omega) (by omega) (by simp) ?_
    refine t_ldc (x := s[i] + 1) st (fun w' N' st => st.cell (i := 0) rfl hS (ints_at (by simp [his]))) fun w2 N2 st => ?_
    have hd : deepP (pcs gs) (lv + 1) (i : Int) s = (if 1 < s[i] + 1 then (true, s.set i (s[i] + 1)) else if lv = 0 then (decide (gs[i].1.k.length = 0 ∧ 1 ≤ gs[i].1.l.size ∧ gs[i].1.l.size ≤ 8), s.set i (s[i] + 1)) else ((kidsP (deepP (pcs gs) lv) gs[i].1.k (s.set i (s[i] + 1))).1 && (anyNN gs[i].1.k && decide (gs[i].1.k.length = 4 ∧ gs[i].1.l = ⟨#[]⟩)), (kidsP (deepP (pcs gs) lv) gs[i].1.k (s.set i (s[i] + 1))).2)) := by
      rw [deepP, if_neg hk, if_neg (by rw [pcs_len]; omega)]
      simp only [Int.toNat_natCast, hgd, hcell]
    rw [hd] at hR2
    refine t_ite (fun h3 => ?_) (fun h3 => ?_)
    · have h3 : 1 < s[i] + 1 := by simpa using h3
      exact hR2 _ _ _ _ st (by rw [if_pos h3]) (hs1.mono (by omega)) (by simpa using hsl)
    have h3 : ¬ 1 < s[i] + 1 := by simpa using h3
    rw [if_neg h3] at hR2
    obtain ⟨ad, hA, _, c0, c1, c2, hrd⟩ := h.at hil
    have hFa : ∀ j, (ad.add j).block ∉ fps [(⟨3, 1, sn, ints s⟩ : Ch)] := fun j => by rw [hfps, add_block]; exact (hF.resolve_left (by omega)) ad hA
    have hFb : ∀ j j', ((ad.add j).add j').block ∉ fps [(⟨3, 1, sn, ints s⟩ : Ch)] := fun j j' => by rw [hfps, add_block, add_block]; exact (hF.resolve_left (by omega)) ad hA
    refine t_idx' (i * 3) hA (by omega) (by omega) (by simp) ?_
    refine t_ldc st (fun w' N' s => s.old c0 (hFb _ _)) fun w2 N2 st => ?_
    refine t_ldc st (fun w' N' s => s.old c1 (hFb _ _)) fun w2 N2 st => ?_
    refine t_ldc st (fun w' N' s => s.old c2 (hFb _ _)) fun w2 N2 st => ?_
    have hkn : gs[i].2.n = gs[i].1.k.length := by simpa using hrd.n1
    refine t_ite (fun h4 => ?_) (fun h4 => ?_)
    · have hlv : lv = 0 := by simp at h4; omega
      rw [if_pos hlv] at hR2
      unfold f35_spec_l14Deep.J1
      refine t_ite (fun h5 => ?_) (fun h5 => ?_)
      · have h5 : gs[i].1.k.length = 0 := by have := beq_iff_eq.1 h5; omega
        refine t_callp st (l1In_ok _ _ _) fun w2 N2 st => ?_
        refine hR2 _ _ _ _ st ?_ (hs1.mono (by omega)) (by simpa using hsl)
        congr 1
        rw [decide_eq_decide]
        constructor
        · rintro ⟨_, h6, h7⟩; omega
        · rintro ⟨h6, h7⟩; exact ⟨h5, by omega, by omega⟩
      · have h5 : gs[i].1.k.length ≠ 0 := fun e => by rw [beq_eq_false_iff_ne] at h5; omega
        exact hR2 _ _ _ _ st (by rw [decide_eq_false (fun h => h5 h.1)]) (hs1.mono (by omega)) (by simpa using hsl)
    · have hlv : lv ≠ 0 := fun e => by simp [e] at h4
      rw [if_neg hlv] at hR2
      have hklen := hkl _ (List.getElem_mem hil)
      -- the kids
      refine t_loop (fun (p : Nat × List Int) (q : Bool × Int) => q.2 = (p.1 : Int) ∧ q.1 = anyNN (gs[i].1.k.take p.1) ∧ p.1 ≤ gs[i].1.k.length ∧ SB (B + 1 + p.1 * incN lv) p.2 ∧ p.2.length = gs.length ∧ kidsP (deepP (pcs gs) lv) gs[i].1.k (s.set i (s[i] + 1)) = kidsP (deepP (pcs gs) lv) (gs[i].1.k.drop p.1) p.2) (fun p _ => [⟨3, 1, sn, ints p.2⟩]) (fun p _ => gs[i].1.k.length - p.1) (0, s.set i (s[i] + 1)) st ⟨rfl, by simp [anyNN], Nat.zero_le _, by simpa using hs1, by simpa using hsl, rfl⟩ ?_
      rintro ⟨j, s2⟩ ⟨q1, q2⟩ w2 N2 next ⟨hq2, hq1, hj, hs2, hl2, he⟩ st hn
      simp only at hq2 hq1 hj hs2 hl2 he st hn
      subst hq2
      show f35_spec_l14Deep.L2 R a b L _ sn gs[i].1.l gs[i].2 q1 (j : Int) _ w2 N2
      unfold f35_spec_l14Deep.L2
      refine t_ite (fun h5 => ?_) (fun h5 => ?_)
      · have hjl : j < gs[i].1.k.length := by simp [hkn] at h5; exact h5
        obtain ⟨kd, hK, hkc⟩ := hrd.addr (i := j) (by omega)
        have hFk : (kd.add j).block ∉ fps [(⟨3, 1, sn, ints s⟩ : Ch)] := by rw [hfps, add_block]; exact ((hF2 _ (List.getElem_mem hil)).resolve_left (by omega)) kd hK
        refine t_idx' j hK (by omega) (by omega) (by simp) ?_
        refine t_ldc (x := gs[i].1.k[j]) st (fun w' N' s => s.old (hkc j _ (ints_at (by simp [hjl]))) hFk) fun w2 N2 st => ?_
        rw [List.drop_eq_getElem_cons hjl, kidsP] at he
        have hnn : anyNN (gs[i].1.k.take (j + 1)) = (q1 || decide (0 ≤ gs[i].1.k[j])) := by
          rw [List.take_succ_eq_append_getElem hjl, anyNN, List.any_append, hq1]; simp [anyNN]
        have hj2 : (j : Int) * incN lv ≤ 1048575 * incN lv := Int.mul_le_mul_of_nonneg_right (by omega) hi1.1
        have step : ∀ {w2 N2}, Stt w [⟨3, 1, sn, ints s⟩] [⟨3, 1, sn, ints s2⟩] w2 N2 → f35_spec_l14Deep.J3 R a b L ((lv + 1 : Nat) : Int) sn (fun z0 z1 => next (z0, z1)) (j : Int) gs[i].1.k[j] (q1 || decide (0 ≤ gs[i].1.k[j])) w2 N2 := by
          intro w2 N2 st
          unfold f35_spec_l14Deep.J3
          rw [w64i (x := ((lv + 1 : Nat) : Int) - 1) (by omega) (by omega), show ((lv + 1 : Nat) : Int) - 1 = (lv : Int) by omega]
          have hrw : RC w2 a gs := ⟨st.rd h.hd (hfps ▸ hF.rd), fun g hg => st.rd (h.kd g hg) (hfps ▸ (hF2 g hg).rd)⟩
          refine t_call (cs := [⟨3, 1, sn, ints s2⟩]) (rest := []) st (fun o => l14Deep_ok hkl lv (by omega) (by omega) w2 hrw gs[i].1.k[j] s2 (B + 1 + j * incN lv) (by omega) hs2 hl2 hF hF2 o) fun y cs1 w2 N2 hp st => ?_
          obtain ⟨hy, hb2, hl3, rfl⟩ := hp
          have hy : y = (deepP (pcs gs) lv gs[i].1.k[j] s2).1 := (Prod.mk.inj hy).1
          refine t_ite (fun h6 => ?_) (fun h6 => ?_)
          · have hyf : (deepP (pcs gs) lv gs[i].1.k[j] s2).1 = false := by rw [← hy]; simpa using h6
            refine hR2 _ _ _ _ st ?_ (hb2.mono (by omega)) hl3
            rw [he, if_neg (by rw [hyf]; simp)]; rfl
          · have hyt : (deepP (pcs gs) lv gs[i].1.k[j] s2).1 = true := by rw [← hy]; simpa using h6
            rw [w64s (by simp only [maxLen]; omega)]
            refine hn (j + 1, (deepP (pcs gs) lv gs[i].1.k[j] s2).2) _ _ _ ⟨rfl, hnn.symm, hjl, hb2.mono ?_, hl3, ?_⟩ (by simp only; omega) st
            · have : ((j + 1 : Nat) : Int) * incN lv = j * incN lv + incN lv := by rw [Int.natCast_add, Int.add_mul]; simp
              simp only
              omega
            · rw [he, if_pos hyt]
        cases q1 with
        | true => exact t_itet rfl (by have := step st; simpa using this)
        | false => exact t_itef rfl (by have := step st; simpa using this)
      · have hjl : j = gs[i].1.k.length := by simp [hkn] at h5; omega
        subst hjl
        rw [List.drop_length, kidsP] at he
        rw [List.take_length] at hq1
        rw [he] at hR2
        unfold f35_spec_l14Deep.J4
        have hj2 : ((gs[i].1.k.length : Nat) : Int) * incN lv ≤ 1048576 * incN lv := Int.mul_le_mul_of_nonneg_right (by omega) hi1.1
        have fin : ∀ y, y = (anyNN gs[i].1.k && decide (gs[i].1.k.length = 4 ∧ gs[i].1.l = ⟨#[]⟩)) → T.ret R (.bool y) w2 N2 := by
          intro y hy
          exact hR2 _ _ _ _ st (by rw [hy]; rfl) (hs2.mono (by omega)) hl2
        refine t_ite (fun h6 => ?_) (fun h6 => ?_)
        · rw [h6] at hq1
          refine t_ite (fun h7 => ?_) (fun h7 => ?_)
          · have h7 : gs[i].1.k.length = 4 := by have := beq_iff_eq.1 h7; omega
            refine fin _ ?_
            rw [← hq1, bytes_beq]; simp [h7]
          · have h7 : gs[i].1.k.length ≠ 4 := fun e => by rw [beq_eq_false_iff_ne] at h7; omega
            refine fin _ ?_
            rw [← hq1]; simp [h7]
        · rw [h6] at hq1
          refine fin _ ?_
          rw [← hq1]; simp
end Go.Proofs.Ytboccoihmginiaa

namespace Go.Proofs.Ytboccoihmginiaa
open Go.RowKit Go.Sol
set_option linter.unusedVariables false
set_option linter.unusedSimpArgs false
def levP (cs : List PC) : Nat → Int → List Int → Bool × List Int
  | 0, _, t => (true, t)
  | lv + 1, k, t =>
    if k = -1 then (true, t)
    else if t.getD k.toNat 0 ≠ 0 ∧ t.getD k.toNat 0 ≠ ((lv + 1 : Nat) : Int) then (false, t)
    else if t.getD k.toNat 0 = ((lv + 1 : Nat) : Int) then (true, t)
    else kidsP (levP cs lv) (cellAt cs k).k (t.set k.toNat ((lv + 1 : Nat) : Int))
def KidsOk (ok : Int → List Int → Prop) (f : Int → List Int → Bool × List Int) : List Int → List Int → Prop
  | [], _ => True
  | x :: xs, t => ok x t ∧ ((f x t).1 = true → KidsOk ok f xs (f x t).2)
def LevOk (cs : List PC) : Nat → Int → List Int → Prop
  | 0, _, _ => True
  | lv + 1, k, t => k = -1 ∨ (0 ≤ k ∧ k < cs.length ∧ (t.getD k.toNat 0 = 0 → (lv = 0 → (cellAt cs k).k = []) ∧ KidsOk (LevOk cs lv) (levP cs lv) (cellAt cs k).k (t.set k.toNat ((lv + 1 : Nat) : Int))))
theorem l14Levels_ok {a b sn : Sl} {gs : List GC} {L : Int} : ∀ (lv : Nat) (hl : lv ≤ 3) (h1 : 1 ≤ lv) (w : World) (h : RC w a gs) (k : Int) (t : List Int) (hok : LevOk (pcs gs) lv k t) (htl : t.length = gs.length) (hF : Apt a sn.fp) (hF2 : ∀ g ∈ gs, Apt g.2 sn.fp) (o : Own w NO [⟨3, 1, sn, ints t⟩]),
    Calls Try.prog 36 #[.agg #[Sl.v a, Sl.v b, .int .i64 L], .int .i64 k, .int .i64 lv, Sl.v sn] w fun e w' => ∃ (y : Bool) (cs1 : List Ch), e = .returned (.bool y) ∧ ((y, 0) = ((levP (pcs gs) lv k t).1, 0) ∧ (levP (pcs gs) lv k t).2.length = gs.length ∧ cs1 = [⟨3, 1, sn, ints (levP (pcs gs) lv k t).2⟩]) ∧ Res w [⟨3, 1, sn, ints t⟩] w' cs1
  | 0, _, h1 => by omega
  | lv + 1, hl, _ => by
    intro w h k t hok htl hF hF2 o
    have hna := h.n
    have hm := h.hd.2.1
    have hsn : sn.n = gs.length := by have := (o.ok _ (List.mem_singleton_self _)).rd.n1; simp only [ints_len] at this; omega
    have hfps : fps [(⟨3, 1, sn, ints t⟩ : Ch)] = sn.fp := by simp [fps]
    refine run_ok (fun R => f36_spec_l14Levels.ok R a b L k ((lv + 1 : Nat) : Int) sn w) _ o Value.bool (fun y cs1 => (y, 0) = ((levP (pcs gs) (lv + 1) k t).1, 0) ∧ (levP (pcs gs) (lv + 1) k t).2.length = gs.length ∧ cs1 = [⟨3, 1, sn, ints (levP (pcs gs) (lv + 1) k t).2⟩]) fun R hR w1 N1 st => ?_
    have hR2 : ∀ (y : Bool) (t' : List Int) w' N', Stt w [⟨3, 1, sn, ints t⟩] [⟨3, 1, sn, ints t'⟩] w' N' → levP (pcs gs) (lv + 1) k t = (y, t') → t'.length = gs.length → T.ret R (.bool y) w' N' := fun y t' w' N' st he hl => hR y _ _ _ _ st ⟨by rw [he], by rw [he]; exact hl, by rw [he]⟩ rfl
    clear hR
    unfold f36_spec_l14Levels.T
    refine t_ite (fun hk => ?_) (fun hk => ?_)
    · have hk : k = -1 := by simpa using hk
      exact hR2 _ _ _ _ st (by rw [levP, if_pos hk]) htl
    have hk : k ≠ -1 := by simpa using hk
    rcases hok with hok | ⟨hk0, hkl, hok⟩
    · exact absurd hok hk
    obtain ⟨i, rfl⟩ : ∃ i : Nat, k = (i : Int) := ⟨k.toNat, by omega⟩
    have hil : i < gs.length := by rw [pcs_len] at hkl; omega
    have hcell := cellAt_pcs hil
    have hit : i < t.length := by omega
    have hgd : t.getD i 0 = t[i] := by simp [hit]
    rw [Int.toNat_natCast, hgd, hcell] at hok
    have hd : levP (pcs gs) (lv + 1) (i : Int) t = if t[i] ≠ 0 ∧ t[i] ≠ ((lv + 1 : Nat) : Int) then (false, t) else if t[i] = ((lv + 1 : Nat) : Int) then (true, t) else kidsP (levP (pcs gs) lv) gs[i].1.k (t.set i ((lv + 1 : Nat) : Int)) := by
      rw [levP, if_neg hk]
      simp only [Int.toNat_natCast, hgd, hcell]
    rw [hd] at hR2
    obtain ⟨sd, hS, _⟩ := (o.ok _ (List.mem_singleton_self _)).rd.addr (i := i) (by simp only; omega)
    simp only at hS
    have rdT : ∀ {w' N'}, Stt w [⟨3, 1, sn, ints t⟩] [⟨3, 1, sn, ints t⟩] w' N' → w'.cell? (sd.add i) = some (.int .i64 t[i]) := fun st => st.cell (i := 0) rfl hS (ints_at (by simp [hit]))
    have go : ∀ {w2 N2}, Stt w [⟨3, 1, sn, ints t⟩] [⟨3, 1, sn, ints t⟩] w2 N2 → ¬ (t[i] ≠ 0 ∧ t[i] ≠ ((lv + 1 : Nat) : Int)) → f36_spec_l14Levels.J1 R a b L (i : Int) ((lv + 1 : Nat) : Int) sn false w2 N2 := by
      intro w2 N2 st hno
      rw [if_neg hno] at hR2
      unfold f36_spec_l14Levels.J1
      refine t_itef rfl ?_
      refine t_idx' i hS (by omega) (by omega) (by simp) ?_
      refine t_ldc (x := t[i]) st (fun w' N' st => rdT st) fun w2 N2 st => ?_
      refine t_ite (fun h3 => ?_) (fun h3 => ?_)
      · have h3 : t[i] = ((lv + 1 : Nat) : Int) := by simpa using h3
        exact hR2 _ _ _ _ st (by rw [if_pos h3]) htl
      have h3 : t[i] ≠ ((lv + 1 : Nat) : Int) := by simpa using h3
      rw [if_neg h3] at hR2
      have ht0 : t[i] = 0 := by
        rcases Classical.em (t[i] = 0) with h | h
        · exact h
        · exact absurd ⟨h, h3⟩ hno
      obtain ⟨hlv0, hkids⟩ := hok ht0
      refine t_idx' i hS (by omega) (by omega) (by simp) ?_
      refine t_stc (i := 0) (j := i) st rfl hS (by simp only [ints_len]; exact hit) rfl fun w2 N2 st => ?_
      have e1 : (ints t).set i (.int .i64 ((lv + 1 : Nat) : Int)) = ints (t.set i ((lv + 1 : Nat) : Int)) := by simp [ints, List.map_set]
      simp only [List.set_cons_zero] at st
      rw [e1] at st
      obtain ⟨ad, hA, _, c0, c1, c2, hrd⟩ := h.at hil
      have hFb : ∀ j j', ((ad.add j).add j').block ∉ fps [(⟨3, 1, sn, ints t⟩ : Ch)] := fun j j' => by rw [hfps, add_block, add_block]; exact (hF.resolve_left (by omega)) ad hA
      refine t_idx' (i * 3) hA (by omega) (by omega) (by simp) ?_
      refine t_ldc st (fun w' N' s => s.old c2 (hFb _ _)) fun w2 N2 st => ?_
      have hkn : gs[i].2.n = gs[i].1.k.length := by simpa using hrd.n1
      have hkm := hrd.2.1
      refine t_loop (fun (p : Nat × List Int) (q : Int) => q = (p.1 : Int) ∧ p.1 ≤ gs[i].1.k.length ∧ p.2.length = gs.length ∧ KidsOk (LevOk (pcs gs) lv) (levP (pcs gs) lv) (gs[i].1.k.drop p.1) p.2 ∧ kidsP (levP (pcs gs) lv) gs[i].1.k (t.set i ((lv + 1 : Nat) : Int)) = kidsP (levP (pcs gs) lv) (gs[i].1.k.drop p.1) p.2) (fun p _ => [⟨3, 1, sn, ints p.2⟩]) (fun p _ => gs[i].1.k.length - p.1) (0, t.set i ((lv + 1 : Nat) : Int)) st ⟨rfl, Nat.zero_le _, by simpa using htl, hkids, rfl⟩ ?_
      rintro ⟨j, t2⟩ q w2 N2 next ⟨rfl, hj, hl2, hok2, he⟩ st hn
      simp only at hj hl2 hok2 he st hn
      show f36_spec_l14Levels.L2 R a b L _ sn gs[i].2 (j : Int) _ w2 N2
      unfold f36_spec_l14Levels.L2
      refine t_ite (fun h5 => ?_) (fun h5 => ?_)
      · have hjl : j < gs[i].1.k.length := by simp [hkn] at h5; exact h5
        have hlv : lv ≠ 0 := fun e => by rw [hlv0 e] at hjl; simp at hjl
        obtain ⟨kd, hK, hkc⟩ := hrd.addr (i := j) (by omega)
        have hFk : (kd.add j).block ∉ fps [(⟨3, 1, sn, ints t⟩ : Ch)] := by rw [hfps, add_block]; exact ((hF2 _ (List.getElem_mem hil)).resolve_left (by omega)) kd hK
        refine t_idx' j hK (by omega) (by omega) (by simp) ?_
        refine t_ldc (x := gs[i].1.k[j]) st (fun w' N' s => s.old (hkc j _ (ints_at (by simp [hjl]))) hFk) fun w2 N2 st => ?_
        rw [List.drop_eq_getElem_cons hjl, kidsP] at he
        rw [List.drop_eq_getElem_cons hjl, KidsOk] at hok2
        rw [w64i (x := ((lv + 1 : Nat) : Int) - 1) (by omega) (by omega), show ((lv + 1 : Nat) : Int) - 1 = (lv : Int) by omega]
        have hrw : RC w2 a gs := ⟨st.rd h.hd (hfps ▸ hF.rd), fun g hg => st.rd (h.kd g hg) (hfps ▸ (hF2 g hg).rd)⟩
        refine t_call (cs := [⟨3, 1, sn, ints t2⟩]) (rest := []) st (fun o => l14Levels_ok lv (by omega) (by omega) w2 hrw gs[i].1.k[j] t2 hok2.1 hl2 hF hF2 o) fun y cs1 w2 N2 hp st => ?_
        obtain ⟨hy, hl3, rfl⟩ := hp
        have hy : y = (levP (pcs gs) lv gs[i].1.k[j] t2).1 := (Prod.mk.inj hy).1
        refine t_ite (fun h6 => ?_) (fun h6 => ?_)
        · have hyf : (levP (pcs gs) lv gs[i].1.k[j] t2).1 = false := by rw [← hy]; simpa using h6
          refine hR2 _ _ _ _ st ?_ hl3
          rw [he, if_neg (by rw [hyf]; simp)]
        · have hyt : (levP (pcs gs) lv gs[i].1.k[j] t2).1 = true := by rw [← hy]; simpa using h6
          show next _ _ _
          rw [w64s (by omega)]
          refine hn (j + 1, (levP (pcs gs) lv gs[i].1.k[j] t2).2) _ _ _ ⟨rfl, hjl, hl3, hok2.2 hyt, ?_⟩ (by simp only; omega) st
          rw [he, if_pos hyt]
      · have hjl : j = gs[i].1.k.length := by simp [hkn] at h5; omega
        subst hjl
        rw [List.drop_length, kidsP] at he
        rw [he] at hR2
        exact hR2 _ _ _ _ st rfl hl2
    refine t_idx' i hS (by omega) (by omega) (by simp) ?_
    refine t_ldc (x := t[i]) st (fun w' N' st => rdT st) fun w2 N2 st => ?_
    refine t_ite (fun h3 => ?_) (fun h3 => ?_)
    · have h3 : t[i] ≠ 0 := by simpa using h3
      refine t_idx' i hS (by omega) (by omega) (by simp) ?_
      refine t_ldc (x := t[i]) st (fun w' N' st => rdT st) fun w2 N2 st => ?_
      by_cases h4 : t[i] = ((lv + 1 : Nat) : Int)
      · have : (t[i] != ((lv + 1 : Nat) : Int)) = false := by simp [h4]
        rw [this]
        exact go st (fun h => h.2 h4)
      · have : (t[i] != ((lv + 1 : Nat) : Int)) = true := by simpa using h4
        rw [this]
        unfold f36_spec_l14Levels.J1
        refine t_itet rfl (hR2 _ _ _ _ st ?_ htl)
        rw [if_pos ⟨h3, h4⟩]
    · have h3 : t[i] = 0 := by simpa using h3
      exact go st (fun h => h.1 h3)
end Go.Proofs.Ytboccoihmginiaa

namespace Go.Proofs.Ytboccoihmginiaa
open Go.RowKit Go.Sol
set_option linter.unusedVariables false
set_option linter.unusedSimpArgs false
def cntOk (c : PC) (n : Int) : Bool := decide (c.n = n) && (decide (c.n ≠ 0) || (decide (c.l = ⟨#[]⟩) && decide (c.k.length = 0)))
def cntsOk : List PC → List Int → Bool
  | c :: cs, n :: ns => cntOk c n && cntsOk cs ns
  | _, _ => true
def rngB (cs : List PC) (rs : List Int) (L : Int) : Bool := decide (1 ≤ L ∧ L ≤ 3) && (decide (cs.length ≤ 80) && decide (1 ≤ rs.length ∧ rs.length ≤ 8))
def zerosP (cs : List PC) : List Int := List.replicate cs.length 0
def deepR (cs : List PC) (rs : List Int) (L : Int) : Bool × List Int := kidsP (deepP cs L.toNat) rs (zerosP cs)
def levR (cs : List PC) (rs : List Int) (L : Int) : Bool × List Int := kidsP (levP cs L.toNat) rs (zerosP cs)
def goodS (cs : List PC) (rs : List Int) (L : Int) : Bool := rngB cs rs L && ((deepR cs rs L).1 && ((levR cs rs L).1 && cntsOk cs (deepR cs rs L).2))
theorem made24 (n : Nat) : (madeCells (Value.int .i64 0).cells (n * 1)).toList = ints (List.replicate n 0) := by
  rw [Nat.mul_one]
  show (madeCells #[Value.int .i64 0] n).toList = _
  rw [toList_madeCells_one]
  simp [ints]
theorem cntsOk_drop {cs : List PC} {ns : List Int} {i : Nat} (h1 : i < cs.length) (h2 : i < ns.length) : cntsOk (cs.drop i) (ns.drop i) = (cntOk cs[i] ns[i] && cntsOk (cs.drop (i + 1)) (ns.drop (i + 1))) := by
  rw [List.drop_eq_getElem_cons h1, List.drop_eq_getElem_cons h2]; rfl
theorem goodS_ok {w : World} {a b : Sl} {gs : List GC} {rs : List Int} {L : Int} (h : RW w a b gs rs) (hkl : ∀ g ∈ gs, g.1.k.length ≤ 1048576)
    (hlev : rngB (pcs gs) rs L = true → (deepR (pcs gs) rs L).1 = true → KidsOk (LevOk (pcs gs) L.toNat) (levP (pcs gs) L.toNat) rs (zerosP (pcs gs))) :
    Calls Try.prog 9 #[.agg #[Sl.v a, Sl.v b, .int .i64 L]] w fun e w' => e = .returned (.bool (goodS (pcs gs) rs L)) ∧ Below w.heap.size w w' := by
  have hna := h.c.n
  have hnb : b.n = rs.length := by simpa using h.r.n1
  have hbm := h.r.2.1
  refine run_pure (fun R => f9_spec_GoodCow.ok R a b L w) fun R hR w1 N1 st => ?_
  have hno : rngB (pcs gs) rs L = false → ∀ {w' N'}, Stt w [] [] w' N' → f9_spec_GoodCow.J1 R a b L true w' N' := by
    intro hn w' N' st
    unfold f9_spec_GoodCow.J1
    exact t_itet rfl (hR _ _ _ _ st (by rw [goodS, hn]; rfl))
  have hyes : rngB (pcs gs) rs L = true → ∀ {w' N'}, Stt w [] [] w' N' → f9_spec_GoodCow.J1 R a b L false w' N' := by
    intro hy w' N' st
    have hg : goodS (pcs gs) rs L = ((deepR (pcs gs) rs L).1 && ((levR (pcs gs) rs L).1 && cntsOk (pcs gs) (deepR (pcs gs) rs L).2)) := by rw [goodS, hy]; rfl
    rw [hg] at hR
    have hr := hy
    simp only [rngB, Bool.and_eq_true, decide_eq_true_eq, pcs_len] at hr
    obtain ⟨⟨hL1, hL3⟩, hc80, hr1, hr8⟩ := hr
    obtain ⟨lv, hlv⟩ : ∃ lv : Nat, L = (lv : Int) := ⟨L.toNat, by omega⟩
    subst hlv
    have hin := incN_le (lv := lv) (by omega)
    unfold f9_spec_GoodCow.J1
    refine t_itef rfl ?_
    have fresh : ∀ {cs w' N'} {s : Sl} {xs : List Value}, Stt w [] cs w' N' → (⟨3, 1, s, xs⟩ : Ch) ∈ cs → ∀ b ∈ s.fp, w.heap.size ≤ b := by
      intro cs w' N' s xs st hm b hb
      rcases st.src b (mem_fps.2 ⟨_, hm, hb⟩) with h1 | h1
      · simp [fps] at h1
      · exact h1
    refine t_make τ24 st (by omega) (by omega) fun y w2 N2 hyn st => ?_
    rw [Int.toNat_natCast, made24, hna] at st
    have hz : List.replicate gs.length (0 : Int) = zerosP (pcs gs) := by simp [zerosP]
    rw [hz] at st
    have hzl : (zerosP (pcs gs)).length = gs.length := by simp [zerosP]
    have hz0 : SB 0 (zerosP (pcs gs)) := fun x hx => by have := List.eq_of_mem_replicate hx; omega
    -- the references, counted
    refine t_loop (fun (p : Nat × List Int) (q : Int) => q = (p.1 : Int) ∧ p.1 ≤ rs.length ∧ p.2.length = gs.length ∧ SB (p.1 * incN lv) p.2 ∧ deepR (pcs gs) rs lv = kidsP (deepP (pcs gs) lv) (rs.drop p.1) p.2) (fun p _ => [⟨3, 1, y, ints p.2⟩]) (fun p _ => rs.length - p.1) (0, zerosP (pcs gs)) st ⟨rfl, Nat.zero_le _, hzl, by simpa using hz0, rfl⟩ ?_
    rintro ⟨j, s⟩ q w2 N2 next ⟨rfl, hj, hsl, hsb, he⟩ st hn
    simp only at hj hsl hsb he st hn
    show f9_spec_GoodCow.L2 R a b (lv : Int) y (j : Int) _ w2 N2
    unfold f9_spec_GoodCow.L2
    refine t_ite (fun h5 => ?_) (fun h5 => ?_)
    · have hjl : j < rs.length := by simp [hnb] at h5; exact h5
      obtain ⟨bd, hB, hbc⟩ := h.r.addr (i := j) (by omega)
      refine t_idx' j hB (by omega) (by omega) (by simp) ?_
      refine t_ldc (x := rs[j]) st (fun w' N' s => s.old0 (hbc j _ (ints_at (by simp [hjl])))) fun w2 N2 st => ?_
      rw [List.drop_eq_getElem_cons hjl, kidsP] at he
      have hfr := fresh st (List.mem_singleton_self _)
      have hj2 : (j : Int) * incN lv ≤ 8 * incN lv := Int.mul_le_mul_of_nonneg_right (by omega) hin.1
      refine t_call (cs := [⟨3, 1, y, ints s⟩]) (rest := []) st (fun o => l14Deep_ok hkl lv (by omega) (by omega) w2 (h.c.st st) rs[j] s (j * incN lv) (by omega) hsb hsl (Rd.apt h.c.hd (by omega) hfr) (fun g hg => Rd.apt (h.c.kd g hg) (by omega) hfr) o) fun r cs1 w2 N2 hp st => ?_
      obtain ⟨hy', hb2, hl3, rfl⟩ := hp
      have hy' : r = (deepP (pcs gs) lv rs[j] s).1 := (Prod.mk.inj hy').1
      refine t_ite (fun h6 => ?_) (fun h6 => ?_)
      · have hyf : (deepP (pcs gs) lv rs[j] s).1 = false := by rw [← hy']; simpa using h6
        exact hR _ _ _ _ st (by rw [he, if_neg (by rw [hyf]; simp)]; rfl)
      · have hyt : (deepP (pcs gs) lv rs[j] s).1 = true := by rw [← hy']; simpa using h6
        show next _ _ _
        rw [w64s (by omega)]
        refine hn (j + 1, (deepP (pcs gs) lv rs[j] s).2) _ _ _ ⟨rfl, hjl, hl3, hb2.mono ?_, ?_⟩ (by simp only; omega) st
        · have : ((j + 1 : Nat) : Int) * incN lv = j * incN lv + incN lv := by rw [Int.natCast_add, Int.add_mul]; simp
          simp only
          omega
        · rw [he, if_pos hyt]
    · have hjl : j = rs.length := by simp [hnb] at h5; omega
      subst hjl
      rw [List.drop_length, kidsP] at he
      have hlev' := hlev hy (by rw [he])
      rw [he] at hR
      simp only [Bool.true_and] at hR
      clear hn
      refine t_make τ24 st (by omega) (by omega) fun z w2 N2 hzn st => ?_
      rw [Int.toNat_natCast, made24, hna, hz] at st
      refine t_loop (fun (p : Nat × List Int) (q : Int) => q = (p.1 : Int) ∧ p.1 ≤ rs.length ∧ p.2.length = gs.length ∧ KidsOk (LevOk (pcs gs) lv) (levP (pcs gs) lv) (rs.drop p.1) p.2 ∧ levR (pcs gs) rs lv = kidsP (levP (pcs gs) lv) (rs.drop p.1) p.2) (fun p _ => [⟨3, 1, z, ints p.2⟩, ⟨3, 1, y, ints s⟩]) (fun p _ => rs.length - p.1) (0, zerosP (pcs gs)) st ⟨rfl, Nat.zero_le _, hzl, hlev', rfl⟩ ?_
      rintro ⟨j, t⟩ q w2 N2 next ⟨rfl, hj, htl, hok, he2⟩ st hn
      simp only at hj htl hok he2 st hn
      show f9_spec_GoodCow.L3 R a b (lv : Int) y z (j : Int) _ w2 N2
      unfold f9_spec_GoodCow.L3
      refine t_ite (fun h5 => ?_) (fun h5 => ?_)
      · have hjl : j < rs.length := by simp [hnb] at h5; exact h5
        obtain ⟨bd, hB, hbc⟩ := h.r.addr (i := j) (by omega)
        refine t_idx' j hB (by omega) (by omega) (by simp) ?_
        refine t_ldc (x := rs[j]) st (fun w' N' s => s.old0 (hbc j _ (ints_at (by simp [hjl])))) fun w2 N2 st => ?_
        rw [List.drop_eq_getElem_cons hjl, kidsP] at he2
        rw [List.drop_eq_getElem_cons hjl, KidsOk] at hok
        have hfr := fresh st (List.mem_cons_self)
        refine t_call (cs := [⟨3, 1, z, ints t⟩]) (rest := [⟨3, 1, y, ints s⟩]) st (fun o => l14Levels_ok lv (by omega) (by omega) w2 (h.c.st st) rs[j] t hok.1 htl (Rd.apt h.c.hd (by omega) hfr) (fun g hg => Rd.apt (h.c.kd g hg) (by omega) hfr) o) fun r cs1 w2 N2 hp st => ?_
        obtain ⟨hy', hl3, rfl⟩ := hp
        have hy' : r = (levP (pcs gs) lv rs[j] t).1 := (Prod.mk.inj hy').1
        refine t_ite (fun h6 => ?_) (fun h6 => ?_)
        · have hyf : (levP (pcs gs) lv rs[j] t).1 = false := by rw [← hy']; simpa using h6
          exact hR _ _ _ _ st (by rw [he2, if_neg (by rw [hyf]; simp)]; rfl)
        · have hyt : (levP (pcs gs) lv rs[j] t).1 = true := by rw [← hy']; simpa using h6
          show next _ _ _
          rw [w64s (by omega)]
          refine hn (j + 1, (levP (pcs gs) lv rs[j] t).2) _ _ _ ⟨rfl, hjl, hl3, hok.2 hyt, ?_⟩ (by simp only; omega) st
          rw [he2, if_pos hyt]
      · have hjl : j = rs.length := by simp [hnb] at h5; omega
        subst hjl
        rw [List.drop_length, kidsP] at he2
        rw [he2] at hR
        simp only [Bool.true_and] at hR
        clear hn
        refine t_loop (fun (i : Nat) (q : Int) => q = (i : Int) ∧ i ≤ gs.length ∧ cntsOk (pcs gs) s = cntsOk ((pcs gs).drop i) (s.drop i)) (fun _ _ => [⟨3, 1, z, ints t⟩, ⟨3, 1, y, ints s⟩]) (fun i _ => gs.length - i) 0 st ⟨rfl, Nat.zero_le _, rfl⟩ ?_
        rintro i q w2 N2 next ⟨rfl, hi, hce⟩ st hn
        show f9_spec_GoodCow.L4 R a y (i : Int) _ w2 N2
        unfold f9_spec_GoodCow.L4
        refine t_ite (fun h6 => ?_) (fun h6 => ?_)
        · have hil : i < gs.length := by simp [hna] at h6; exact h6
          obtain ⟨ad, hA, _, c0, c1, c2, hrd⟩ := h.c.at hil
          have hkn : gs[i].2.n = gs[i].1.k.length := by simpa using hrd.n1
          have his : i < s.length := by omega
          refine t_idx' (i * 3) hA (by omega) (by omega) (by simp) ?_
          refine t_ldc st (fun w' N' s => s.old0 c0) fun w2 N2 st => ?_
          refine t_ldc st (fun w' N' s => s.old0 c1) fun w2 N2 st => ?_
          refine t_ldc st (fun w' N' s => s.old0 c2) fun w2 N2 st => ?_
          have hyl : y.n = gs.length := by rw [hyn, hna]; simp
          obtain ⟨yd, hY, _⟩ := (st.ch (i := 1) rfl).rd.addr (i := i) (by simp only; omega)
          simp only at hY
          refine t_idx' i hY (by omega) (by omega) (by simp) ?_
          refine t_ldc (x := s[i]) st (fun w' N' st => st.cell (i := 1) rfl hY (ints_at (by simp [his]))) fun w2 N2 st => ?_
          rw [cntsOk_drop (by simpa using hil) his] at hce
          have hpi : (pcs gs)[i]'(by simpa using hil) = gs[i].1 := by simp [pcs]
          rw [hpi] at hce
          have fin : ∀ (v : Bool), v = !(cntOk gs[i].1 s[i]) → ∀ {w2 N2}, Stt w [] [⟨3, 1, z, ints t⟩, ⟨3, 1, y, ints s⟩] w2 N2 → f9_spec_GoodCow.J5 R next (i : Int) v w2 N2 := by
            intro v hv w2 N2 st
            unfold f9_spec_GoodCow.J5
            refine t_ite (fun h7 => ?_) (fun h7 => ?_)
            · have : cntOk gs[i].1 s[i] = false := by rw [h7] at hv; cases hc : cntOk gs[i].1 s[i] <;> simp [hc] at hv ⊢
              exact hR _ _ _ _ st (by rw [hce, this]; rfl)
            · have : cntOk gs[i].1 s[i] = true := by rw [h7] at hv; cases hc : cntOk gs[i].1 s[i] <;> simp [hc] at hv ⊢
              rw [w64s (by simp only [maxLen]; omega)]
              exact hn (i + 1) _ _ _ ⟨rfl, hil, by rw [hce, this]; rfl⟩ (by omega) st
          refine t_ite (fun h7 => ?_) (fun h7 => ?_)
          · have h7 : gs[i].1.n ≠ s[i] := by simpa using h7
            exact fin _ (by rw [cntOk, decide_eq_false h7]; rfl) st
          have h7 : gs[i].1.n = s[i] := by simpa using h7
          refine t_ite (fun h8 => ?_) (fun h8 => ?_)
          · have h8 : gs[i].1.n = 0 := by simpa using h8
            rw [bytes_beq]
            refine t_ite (fun h9 => ?_) (fun h9 => ?_)
            · have h9 : gs[i].1.l ≠ ⟨#[]⟩ := by simpa using h9
              exact fin _ (by rw [cntOk, decide_eq_true h7, decide_eq_false (fun h => h h8), decide_eq_false h9]; rfl) st
            · have h9 : gs[i].1.l = ⟨#[]⟩ := by simpa using h9
              refine fin _ ?_ st
              have e : cntOk gs[i].1 s[i] = decide (gs[i].1.k.length = 0) := by rw [cntOk, decide_eq_true h7, decide_eq_false (p := gs[i].1.n ≠ 0) (fun h => h h8), decide_eq_true h9]; rfl
              rw [e, hkn]
              by_cases hk0 : gs[i].1.k.length = 0
              · simp [hk0]
              · rw [decide_eq_false hk0, decide_eq_true (by omega)]; rfl
          · have h8 : gs[i].1.n ≠ 0 := by simpa using h8
            exact fin _ (by rw [cntOk, decide_eq_true h7, decide_eq_true h8]; rfl) st
        · have hil : i = gs.length := by simp [hna] at h6; omega
          subst hil
          refine hR _ _ _ _ st ?_
          rw [hce, List.drop_of_length_le (by simp)]
          simp [cntsOk]
  unfold f9_spec_GoodCow.T
  refine t_callp st (l1In_ok _ _ _) fun w2 N2 st => ?_
  refine t_ite (fun h1 => ?_) (fun h1 => ?_)
  · exact hno (by simp only [Bool.not_eq_true'] at h1; rw [rngB, h1]; rfl) st
  have h1' : decide (1 ≤ L ∧ L ≤ 3) = true := by simpa only [Bool.not_eq_false'] using h1
  refine t_ite (fun h2 => ?_) (fun h2 => ?_)
  · have h2 : ¬ (pcs gs).length ≤ 80 := by simp [hna] at h2; simp; omega
    exact hno (by rw [rngB, h1', decide_eq_false h2]; rfl) st
  have h2 : (pcs gs).length ≤ 80 := by simp [hna] at h2; simp; omega
  refine t_callp st (l1In_ok _ _ _) fun w2 N2 st => ?_
  have h3 : decide ((1 : Int) ≤ (b.n : Int) ∧ (b.n : Int) ≤ 8) = decide (1 ≤ rs.length ∧ rs.length ≤ 8) := by rw [decide_eq_decide, hnb]; omega
  rw [h3]
  have h4 : rngB (pcs gs) rs L = decide (1 ≤ rs.length ∧ rs.length ≤ 8) := by rw [rngB, h1', decide_eq_true h2]; rfl
  rw [← h4]
  cases hr : rngB (pcs gs) rs L with
  | true => exact hyes hr st
  | false => exact hno hr st
end Go.Proofs.Ytboccoihmginiaa

namespace Go.Proofs.Ytboccoihmginiaa
open Go.RowKit Go.Sol
set_option linter.unusedVariables false
set_option linter.unusedSimpArgs false
/-- a state in a box, read -/
def BoxRd (w : World) (c : Addr) (a b : Sl) (L : Int) : Prop := w.cell? (c.add 0) = some (Sl.v a) ∧ w.cell? (c.add 1) = some (Sl.v b) ∧ w.cell? (c.add 2) = some (.int .i64 L)
theorem BoxRd.below {w w' : World} {c : Addr} {a b : Sl} {L : Int} (h : BoxRd w c a b L) (hb : Below w.heap.size w w') : BoxRd w' c a b L := by
  have e : ∀ {j v}, w.cell? (c.add j) = some v → w'.cell? (c.add j) = some v := fun {j v} hc => by
    rw [World.cell?_of_block (w := w) (hb.block _ (World.block_lt_of_cell? w _ hc))]; exact hc
  exact ⟨e h.1, e h.2.1, e h.2.2⟩
def isNum (n : Nat) (k : Int) : Bool := decide (-1 ≤ k ∧ k ≤ (n : Int) - 1)
theorem notNumber_ok {w : World} {c : Addr} {a b : Sl} {L k : Int} (h : BoxRd w c a b L) (hn : a.n ≤ maxLen) : Calls Try.prog 58 #[.int .i64 k, .pointer (some c)] w fun e w' => e = .returned (.bool (!isNum a.n k)) ∧ Below w.heap.size w w' := by
  refine run_pure (fun R => f58_impl_Cow_isGoodCell_1.ok R k c w) fun R hR w1 N1 st => ?_
  unfold f58_impl_Cow_isGoodCell_1.T
  refine t_ldc st (fun w' N' s => s.old0 h.1) fun w2 N2 st => ?_
  refine t_ldc st (fun w' N' s => s.old0 h.2.1) fun w2 N2 st => ?_
  refine t_ldc st (fun w' N' s => s.old0 h.2.2) fun w2 N2 st => ?_
  refine t_callp st (isNumber_ok a b L k hn) fun w2 N2 st => ?_
  exact hR _ _ _ _ st rfl
theorem ca58' (vs : Array Value) (w : World) : (callFunc 58 vs).run Try.prog w = .ok (.enter 58 vs) w := by kernel_rfl
def firstBad (n : Nat) (ks : List Int) : Nat := ks.findIdx fun k => !isNum n k
theorem findKid_ok {w : World} {c : Addr} {a b s : Sl} {L : Int} {ks : List Int} (h : BoxRd w c a b L) (hn : a.n ≤ maxLen) (hs : Rd w 1 s (ints ks)) :
    Calls Try.prog 67 #[Sl.v s, .func (.func 58) #[] #[.pointer (some c)]] w fun e w' => e = .returned (.int .i64 (if firstBad a.n ks < ks.length then (firstBad a.n ks : Int) else -1)) ∧ Below w.heap.size w w' := by
  have hsn : s.n = ks.length := by simpa using hs.n1
  refine run_pure (fun R => f67_slices_IndexFunc_int_int.ok R s ⟨58, #[.pointer (some c)]⟩ w) fun R hR w1 N1 st => ?_
  unfold f67_slices_IndexFunc_int_int.T
  refine t_loop (fun (i : Nat) (q : Int) => q = (i : Int) ∧ i ≤ ks.length ∧ ∀ j (hj : j < ks.length), j < i → isNum a.n ks[j] = true) (fun _ _ => []) (fun i _ => ks.length - i) 0 st ⟨rfl, Nat.zero_le _, fun j _ h => by omega⟩ ?_
  rintro i q w2 N2 next ⟨rfl, hi, he⟩ st hn2
  show f67_slices_IndexFunc_int_int.L1 R s _ (i : Int) _ w2 N2
  unfold f67_slices_IndexFunc_int_int.L1
  refine t_ite (fun h1 => ?_) (fun h1 => ?_)
  · have hil : i < ks.length := by simp [hsn] at h1; exact h1
    obtain ⟨ad, hA, hc⟩ := hs.addr (i := i) (by omega)
    refine t_idx' i hA (by omega) (by omega) (by simp) ?_
    refine t_ldc (x := ks[i]) st (fun w' N' s => s.old0 (hc i _ (ints_at (by simp [hil])))) fun w2 N2 st => ?_
    refine t_callfp (x := !isNum a.n ks[i]) st (fun w => ca58' _ w) (notNumber_ok (h.below st.upd.below) hn) fun w2 N2 st => ?_
    refine t_ite (fun h2 => ?_) (fun h2 => ?_)
    · have : firstBad a.n ks = i := by
        unfold firstBad
        refine (List.findIdx_eq hil).2 ⟨h2, fun j hj => ?_⟩
        rw [he j (by omega) hj]; rfl
      exact hR _ _ _ _ st (by rw [this, if_pos hil])
    · show next _ _ _
      rw [w64s (by have := hs.2.1; omega)]
      refine hn2 (i + 1) _ _ _ ⟨rfl, hil, fun j hj hji => ?_⟩ (by omega) st
      rcases Nat.lt_succ_iff_lt_or_eq.1 hji with h | h
      · exact he j hj h
      · subst h; simpa using h2
  · have hil : i = ks.length := by simp [hsn] at h1; omega
    subst hil
    have : ¬ firstBad a.n ks < ks.length := by
      intro hlt
      have := List.findIdx_getElem (w := hlt)
      have h4 := he _ hlt hlt
      unfold firstBad at h4
      rw [h4] at this
      simp at this
    exact hR _ _ _ _ st (by rw [if_neg this])
theorem firstBad_lt {n : Nat} {ks : List Int} : firstBad n ks < ks.length ↔ ∃ k ∈ ks, isNum n k = false := by
  unfold firstBad
  rw [List.findIdx_lt_length]
  simp
theorem hasBad_ok {w : World} {c : Addr} {a b s : Sl} {L : Int} {ks : List Int} (h : BoxRd w c a b L) (hn : a.n ≤ maxLen) (hs : Rd w 1 s (ints ks)) :
    Calls Try.prog 57 #[Sl.v s, .func (.func 58) #[] #[.pointer (some c)]] w fun e w' => e = .returned (.bool (!ks.all (isNum a.n))) ∧ Below w.heap.size w w' := by
  refine run_pure (fun R => f57_slices_ContainsFunc_int_int.ok R s ⟨58, #[.pointer (some c)]⟩ w) fun R hR w1 N1 st => ?_
  unfold f57_slices_ContainsFunc_int_int.T
  refine t_callp st (findKid_ok (h.below st.upd.below) hn (st.rd0 hs)) fun w2 N2 st => ?_
  refine hR _ _ _ _ st (congrArg Value.bool ?_)
  by_cases hb : firstBad a.n ks < ks.length
  · rw [if_pos hb, decide_eq_true (by omega)]
    obtain ⟨k, hk, hk2⟩ := firstBad_lt.1 hb
    have : ks.all (isNum a.n) = false := List.all_eq_false.2 ⟨k, hk, by rw [hk2]; simp⟩
    rw [this]; rfl
  · rw [if_neg hb]
    have : ks.all (isNum a.n) = true := List.all_eq_true.2 fun k hk => by
      cases hc : isNum a.n k with
      | true => rfl
      | false => exact absurd (firstBad_lt.2 ⟨k, hk, hc⟩) hb
    rw [this]; rfl
/-- a cell of a level, right by itself -/
def gcP (n : Nat) (x : PC) (lv : Int) : Bool :=
  if lv = 1 then decide (1 ≤ x.l.size ∧ x.l.size ≤ 8) && decide (x.k.length = 0)
  else decide (x.l = ⟨#[]⟩) && (decide (x.k.length = 4) && (x.k.all (isNum n) && decide (0 ≤ maxI x.k)))
theorem isGoodCell_ok {w : World} {a b s : Sl} {L lv : Int} {x : PC} (hn : a.n ≤ maxLen) (hs : Rd w 1 s (ints x.k)) :
    Calls Try.prog 34 #[.agg #[Sl.v a, Sl.v b, .int .i64 L], .agg #[.int .i64 x.n, .string x.l, Sl.v s], .int .i64 lv] w fun e w' => e = .returned (.bool (gcP a.n x lv)) ∧ Below w.heap.size w w' := by
  have hsn : s.n = x.k.length := by simpa using hs.n1
  refine run_pure (fun R => f34_impl_Cow_isGoodCell.ok R a b L x.n x.l s lv w) fun R hR w1 N1 st => ?_
  unfold f34_impl_Cow_isGoodCell.T
  refine t_new 3 1 rfl (by decide) st fun g w2 N2 st => ?_
  have hbox : ∀ {w N}, Stt w1 [] [⟨26, 3, ⟨some ⟨g, 0, none⟩, 1, 1⟩, [Sl.v a, Sl.v b, .int .i64 L]⟩] w N → True := fun _ => trivial
  refine t_ite (fun h1 => ?_) (fun h1 => ?_)
  · have h1 : lv = 1 := by simpa using h1
    refine t_callp st (within_ok _ _ _) fun w2 N2 st => ?_
    unfold f34_impl_Cow_isGoodCell.J1
    have e : decide ((1 : Int) ≤ (x.l.size : Int) ∧ (x.l.size : Int) ≤ 8) = decide (1 ≤ x.l.size ∧ x.l.size ≤ 8) := by rw [decide_eq_decide]; omega
    rw [e]
    refine t_ite (fun h2 => ?_) (fun h2 => ?_)
    · refine hR _ _ _ _ st (congrArg Value.bool ?_)
      rw [gcP, if_pos h1, h2, hsn, Bool.true_and]
      by_cases h0 : x.k.length = 0
      · rw [decide_eq_true h0, h0]; rfl
      · rw [decide_eq_false h0, beq_eq_false_iff_ne.2 (by omega)]
    · exact hR _ _ _ _ st (by rw [gcP, if_pos h1, h2]; rfl)
  · have h1 : lv ≠ 1 := by simpa using h1
    have hg : gcP a.n x lv = (decide (x.l = ⟨#[]⟩) && (decide (x.k.length = 4) && (x.k.all (isNum a.n) && decide (0 ≤ maxI x.k)))) := by rw [gcP, if_neg h1]
    rw [hg] at hR
    unfold f34_impl_Cow_isGoodCell.J2
    rw [bytes_beq]
    refine t_ite (fun h2 => ?_) (fun h2 => ?_)
    · refine t_ite (fun h3 => ?_) (fun h3 => ?_)
      · have h3 : x.k.length = 4 := by have := beq_iff_eq.1 h3; omega
        have hb : BoxRd w2 ⟨g, 0, none⟩ a b L := ⟨st.cell (i := 0) rfl rfl (j := 0) rfl, st.cell (i := 0) rfl rfl (j := 1) rfl, st.cell (i := 0) rfl rfl (j := 2) rfl⟩
        refine t_callp st (hasBad_ok hb hn (st.rd0 hs)) fun w2 N2 st => ?_
        refine t_ite (fun h4 => ?_) (fun h4 => ?_)
        · have h4 : x.k.all (isNum a.n) = true := by simpa only [Bool.not_not] using h4
          refine t_callp st (Max_ok (st.rd0 hs) (by omega)) fun w2 N2 st => ?_
          exact hR _ _ _ _ st (by rw [h2, decide_eq_true h3, h4]; rfl)
        · have h4 : x.k.all (isNum a.n) = false := by simpa only [Bool.not_not] using h4
          exact hR _ _ _ _ st (by rw [h2, decide_eq_true h3, h4]; rfl)
      · have h3 : x.k.length ≠ 4 := fun e => by rw [beq_eq_false_iff_ne] at h3; omega
        exact hR _ _ _ _ st (by rw [h2, decide_eq_false h3]; rfl)
    · exact hR _ _ _ _ st (by rw [h2]; rfl)
end Go.Proofs.Ytboccoihmginiaa

namespace Go.Proofs.Ytboccoihmginiaa
open Go.RowKit Go.Sol
set_option linter.unusedVariables false
set_option linter.unusedSimpArgs false
structure RS where
  c : List Int
  l : List Int
  ln : List Int
def referP (cs : List PC) (k own : Int) (s : RS) : Bool × RS :=
  if isNum cs.length k = false then (false, s)
  else if k < 0 then (true, s)
  else if s.l.getD k.toNat 0 = 0 then (gcP cs.length (cellAt cs k) own, ⟨s.c.set k.toNat (s.c.getD k.toNat 0 + 1), s.l.set k.toNat own, s.ln ++ [k]⟩)
  else (decide (s.l.getD k.toNat 0 = own), ⟨s.c.set k.toNat (s.c.getD k.toNat 0 + 1), s.l, s.ln⟩)
def ptrCh (g : Nat) (s : Sl) : Ch := ⟨24, 1, ⟨some ⟨g, 0, none⟩, 1, 1⟩, [Sl.v s]⟩
/-- the rows of a check: the state's box, the boxes of the three rows, the rows -/
def refCh (g0 g1 g2 g3 : Nat) (a b : Sl) (L : Int) (sc sl sn : Sl) (s : RS) : List Ch :=
  [⟨3, 1, sc, ints s.c⟩, ⟨3, 1, sl, ints s.l⟩, ⟨3, 1, sn, ints s.ln⟩, ptrCh g1 sc, ptrCh g2 sl, ptrCh g3 sn, hdrCh g0 a b L]
abbrev ad0 (g : Nat) : Addr := ⟨g, 0, none⟩
theorem refer_ok {w : World} {g0 g1 g2 g3 : Nat} {a b : Sl} {gs : List GC} {L k own : Int} {sc sl sn : Sl} {s : RS} (h : RC w a gs) (o : Own w NO (refCh g0 g1 g2 g3 a b L sc sl sn s)) (hc : s.c.length = gs.length) (hl : s.l.length = gs.length) (hln : s.ln.length ≤ 2097152)
    (hb : SB 4611686018427387000 s.c) (hA : Apt a (fps (refCh g0 g1 g2 g3 a b L sc sl sn s))) (hK : ∀ g ∈ gs, Apt g.2 (fps (refCh g0 g1 g2 g3 a b L sc sl sn s))) :
    Calls Try.prog 32 #[.int .i64 k, .int .i64 own, .pointer (some (ad0 g0)), .pointer (some (ad0 g1)), .pointer (some (ad0 g2)), .pointer (some (ad0 g3))] w fun e w' => ∃ (y : Bool) (cs1 : List Ch), e = .returned (.bool y) ∧
      (∃ sn', y = (referP (pcs gs) k own s).1 ∧ cs1 = refCh g0 g1 g2 g3 a b L sc sl sn' (referP (pcs gs) k own s).2) ∧ Res w (refCh g0 g1 g2 g3 a b L sc sl sn s) w' cs1 := by
  have hna := h.n
  have hm := h.hd.2.1
  have hscn : sc.n = gs.length := by have := (o.ok ⟨3, 1, sc, ints s.c⟩ (by simp [refCh])).rd.n1; simp only [ints_len] at this; omega
  have hsln : sl.n = gs.length := by have := (o.ok ⟨3, 1, sl, ints s.l⟩ (by simp [refCh])).rd.n1; simp only [ints_len] at this; omega
  have hsnn : sn.n = s.ln.length := by have := (o.ok ⟨3, 1, sn, ints s.ln⟩ (by simp [refCh])).rd.n1; simp only [ints_len] at this; omega
  refine run_ok (fun R => f32_impl_GoodCow_1.ok R k own _ _ _ _ w) _ o Value.bool (fun y cs1 => ∃ sn', y = (referP (pcs gs) k own s).1 ∧ cs1 = refCh g0 g1 g2 g3 a b L sc sl sn' (referP (pcs gs) k own s).2) fun R hR w1 N1 st => ?_
  have hR2 : ∀ (y : Bool) (sn' : Sl) (s' : RS) w' N', Stt w (refCh g0 g1 g2 g3 a b L sc sl sn s) (refCh g0 g1 g2 g3 a b L sc sl sn' s') w' N' → referP (pcs gs) k own s = (y, s') → T.ret R (.bool y) w' N' := fun y sn' s' w' N' st he => hR y _ _ _ _ st ⟨sn', by rw [he], by rw [he]⟩ rfl
  clear hR
  unfold f32_impl_GoodCow_1.T
  have box0 : ∀ {w' N' s' sn'}, Stt w (refCh g0 g1 g2 g3 a b L sc sl sn s) (refCh g0 g1 g2 g3 a b L sc sl sn' s') w' N' → BoxRd w' (ad0 g0) a b L := fun {w' N' s' sn'} st =>
    ⟨cellm (c := hdrCh g0 a b L) st (by simp [refCh]) rfl (j := 0) rfl, cellm (c := hdrCh g0 a b L) st (by simp [refCh]) rfl (j := 1) rfl, cellm (c := hdrCh g0 a b L) st (by simp [refCh]) rfl (j := 2) rfl⟩
  have bx1 : ∀ {w' N' s' sn'}, Stt w (refCh g0 g1 g2 g3 a b L sc sl sn s) (refCh g0 g1 g2 g3 a b L sc sl sn' s') w' N' → w'.cell? (ad0 g1) = some (Sl.v sc) := fun {w' N' s' sn'} st => cellm (c := ptrCh g1 sc) st (by simp [refCh]) rfl (j := 0) rfl
  have bx2 : ∀ {w' N' s' sn'}, Stt w (refCh g0 g1 g2 g3 a b L sc sl sn s) (refCh g0 g1 g2 g3 a b L sc sl sn' s') w' N' → w'.cell? (ad0 g2) = some (Sl.v sl) := fun {w' N' s' sn'} st => cellm (c := ptrCh g2 sl) st (by simp [refCh]) rfl (j := 0) rfl
  have bx3 : ∀ {w' N' s' sn'}, Stt w (refCh g0 g1 g2 g3 a b L sc sl sn s) (refCh g0 g1 g2 g3 a b L sc sl sn' s') w' N' → w'.cell? (ad0 g3) = some (Sl.v sn') := fun {w' N' s' sn'} st => cellm (c := ptrCh g3 sn') st (by simp [refCh]) rfl (j := 0) rfl
  refine t_ldc (x := a) st (fun w' N' st => (box0 st).1) fun w2 N2 st => ?_
  refine t_ldc (x := b) st (fun w' N' st => (box0 st).2.1) fun w2 N2 st => ?_
  refine t_ldc (x := L) st (fun w' N' st => (box0 st).2.2) fun w2 N2 st => ?_
  refine t_callp st (isNumber_ok a b L k hm) fun w2 N2 st => ?_
  have hnum : decide (-1 ≤ k ∧ k ≤ (a.n : Int) - 1) = isNum (pcs gs).length k := by rw [isNum, pcs_len, hna]
  rw [hnum]
  refine t_ite (fun h1 => ?_) (fun h1 => ?_)
  · have h1 : isNum (pcs gs).length k = false := by simpa using h1
    exact hR2 _ sn s _ _ st (by rw [referP, if_pos h1])
  have h1 : isNum (pcs gs).length k = true := by simpa using h1
  refine t_ite (fun h2 => ?_) (fun h2 => ?_)
  · have h2 : k < 0 := by simpa using h2
    exact hR2 _ sn s _ _ st (by rw [referP, if_neg (by rw [h1]; simp), if_pos h2])
  have h2 : 0 ≤ k := by simpa using h2
  have h1' : k ≤ (gs.length : Int) - 1 := by rw [isNum, pcs_len] at h1; exact (of_decide_eq_true h1).2
  obtain ⟨i, rfl⟩ : ∃ i : Nat, k = (i : Int) := ⟨k.toNat, by omega⟩
  have hil : i < gs.length := by omega
  have hcell := cellAt_pcs hil
  have hic : i < s.c.length := by omega
  have hill : i < s.l.length := by omega
  have hgc : s.c.getD i 0 = s.c[i] := by simp [hic]
  have hgl : s.l.getD i 0 = s.l[i] := by simp [hill]
  have hd : referP (pcs gs) (i : Int) own s = if s.l[i] = 0 then (gcP gs.length gs[i].1 own, ⟨s.c.set i (s.c[i] + 1), s.l.set i own, s.ln ++ [(i : Int)]⟩) else (decide (s.l[i] = own), ⟨s.c.set i (s.c[i] + 1), s.l, s.ln⟩) := by
    rw [referP, if_neg (by rw [h1]; simp), if_neg (by omega)]
    simp only [Int.toNat_natCast, hgc, hgl, hcell, pcs_len]
  rw [hd] at hR2
  have hbi := hb s.c[i] (List.getElem_mem hic)
  obtain ⟨cd, hC, _⟩ := (st.ch (i := 0) rfl).rd.addr (i := i) (by simp only; omega)
  obtain ⟨ld, hL, _⟩ := (st.ch (i := 1) rfl).rd.addr (i := i) (by simp only; omega)
  simp only at hC hL
  refine t_ldc (x := sc) st (fun w' N' st => bx1 st) fun w2 N2 st => ?_
  refine t_idx' i hC (by omega) (by omega) (by simp) ?_
  refine t_ldc (x := s.c[i]) st (fun w' N' st => st.cell (i := 0) rfl hC (ints_at (by simp [hic]))) fun w2 N2 st => ?_
  refine t_idx' i hC (by omega) (by omega) (by simp) ?_
  rw [w64i (x := s.c[i] + 1) (by omega) (by omega)]
  refine t_stc (i := 0) (j := i) st rfl hC (by simp only [ints_len]; exact hic) rfl fun w2 N2 st => ?_
  have e1 : (ints s.c).set i (.int .i64 (s.c[i] + 1)) = ints (s.c.set i (s.c[i] + 1)) := by simp [ints, List.map_set]
  replace st : Stt w (refCh g0 g1 g2 g3 a b L sc sl sn s) (refCh g0 g1 g2 g3 a b L sc sl sn ⟨s.c.set i (s.c[i] + 1), s.l, s.ln⟩) w2 N2 := st.eq (by simp only [refCh, List.set_cons_zero]; rw [e1])
  refine t_ldc (x := sl) st (fun w' N' st => bx2 st) fun w2 N2 st => ?_
  refine t_idx' i hL (by omega) (by omega) (by simp) ?_
  refine t_ldc (x := s.l[i]) st (fun w' N' st => st.cell (i := 1) rfl hL (ints_at (by simp [hill]))) fun w2 N2 st => ?_
  refine t_ite (fun h3 => ?_) (fun h3 => ?_)
  · have h3 : s.l[i] = 0 := by simpa using h3
    rw [if_pos h3] at hR2
    refine t_ldc (x := sl) st (fun w' N' st => bx2 st) fun w2 N2 st => ?_
    refine t_idx' i hL (by omega) (by omega) (by simp) ?_
    refine t_stc (i := 1) (j := i) st rfl hL (by simp only [ints_len]; exact hill) rfl fun w2 N2 st => ?_
    have e2 : (ints s.l).set i (.int .i64 own) = ints (s.l.set i own) := by simp [ints, List.map_set]
    replace st : Stt w (refCh g0 g1 g2 g3 a b L sc sl sn s) (refCh g0 g1 g2 g3 a b L sc sl sn ⟨s.c.set i (s.c[i] + 1), s.l.set i own, s.ln⟩) w2 N2 := st.eq (by simp only [refCh, List.set_cons_zero, List.set_cons_succ]; rw [e2])
    refine t_ldc (x := sn) st (fun w' N' st => bx3 st) fun w2 N2 st => ?_
    refine t_new 1 1 rfl (by decide) st fun g4 w2 N2 st => ?_
    have hsrc := (st.ch (i := 0) rfl).rd
    refine t_app τ24 (i := 3) (xs := ints s.ln) st rfl hsrc (ints_one [(i : Int)]) (by simp only; omega) fun sn' w2 N2 hs' st => ?_
    replace st := st.sub (List.sublist_cons_self _ _)
    refine t_stc (i := 5) (j := 0) (c := ptrCh g3 sn) st rfl rfl (by simp [ptrCh]) rfl fun w2 N2 st => ?_
    have e3 : ints s.ln ++ [.int .i64 (i : Int)] = ints (s.ln ++ [(i : Int)]) := by simp [ints]
    replace st : Stt w (refCh g0 g1 g2 g3 a b L sc sl sn s) (refCh g0 g1 g2 g3 a b L sc sl sn' ⟨s.c.set i (s.c[i] + 1), s.l.set i own, s.ln ++ [(i : Int)]⟩) w2 N2 := st.eq (by
      simp only [refCh, ptrCh, List.set_cons_zero, List.set_cons_succ, ← e3])
    refine t_ldc (x := a) st (fun w' N' st => (box0 st).1) fun w2 N2 st => ?_
    refine t_ldc (x := b) st (fun w' N' st => (box0 st).2.1) fun w2 N2 st => ?_
    refine t_ldc (x := L) st (fun w' N' st => (box0 st).2.2) fun w2 N2 st => ?_
    refine t_ldc (x := a) st (fun w' N' st => (box0 st).1) fun w2 N2 st => ?_
    obtain ⟨ad, hAd, _, c0, c1, c2, hrd⟩ := h.at hil
    have hFb : ∀ j j', ((ad.add j).add j').block ∉ fps (refCh g0 g1 g2 g3 a b L sc sl sn s) := fun j j' => by rw [add_block, add_block]; exact (hA.resolve_left (by omega)) ad hAd
    refine t_idx' (i * 3) hAd (by omega) (by omega) (by simp) ?_
    refine t_ldc st (fun w' N' s => s.old c0 (hFb _ _)) fun w2 N2 st => ?_
    refine t_ldc st (fun w' N' s => s.old c1 (hFb _ _)) fun w2 N2 st => ?_
    refine t_ldc st (fun w' N' s => s.old c2 (hFb _ _)) fun w2 N2 st => ?_
    refine t_callq st (fun w' N' s => isGoodCell_ok (x := gs[i].1) hm (s.rd hrd (hK _ (List.getElem_mem hil)).rd)) fun w2 N2 st => ?_
    exact hR2 _ sn' _ _ _ st (by rw [hna])
  · have h3 : s.l[i] ≠ 0 := by simpa using h3
    rw [if_neg h3] at hR2
    refine t_ldc (x := sl) st (fun w' N' st => bx2 st) fun w2 N2 st => ?_
    refine t_idx' i hL (by omega) (by omega) (by simp) ?_
    refine t_ldc (x := s.l[i]) st (fun w' N' st => st.cell (i := 1) rfl hL (ints_at (by simp [hill]))) fun w2 N2 st => ?_
    exact hR2 _ sn _ _ _ st (by congr 1)
end Go.Proofs.Ytboccoihmginiaa

namespace Go.Proofs.Ytboccoihmginiaa
open Go.RowKit Go.Sol
set_option linter.unusedVariables false
set_option linter.unusedSimpArgs false
/-- references, one behind the other -/
def refsP (cs : List PC) (own : Int) : List Int → RS → Bool × RS
  | [], s => (true, s)
  | k :: ks, s => if (referP cs k own s).1 then refsP cs own ks (referP cs k own s).2 else (false, (referP cs k own s).2)
/-- the line: each cell's kids -/
def lineP (cs : List PC) : Nat → Nat → RS → Bool × RS
  | 0, _, s => (true, s)
  | f + 1, i, s =>
    if i < s.ln.length then
      let r := refsP cs (s.l.getD (s.ln.getD i 0).toNat 0 - 1) (cellAt cs (s.ln.getD i 0)).k s
      if r.1 then lineP cs f (i + 1) r.2 else (false, r.2)
    else (true, s)
def rootsI (cs : List PC) (rs : List Int) (L : Int) : Bool × RS := refsP cs L rs ⟨zerosP cs, zerosP cs, []⟩
def lineI (cs : List PC) (rs : List Int) (L : Int) : Bool × RS := lineP cs (cs.length + 1) 0 (rootsI cs rs L).2
def goodI (cs : List PC) (rs : List Int) (L : Int) : Bool := rngB cs rs L && ((rootsI cs rs L).1 && ((lineI cs rs L).1 && cntsOk cs (lineI cs rs L).2.c))
end Go.Proofs.Ytboccoihmginiaa

namespace Go.Proofs.Ytboccoihmginiaa
open Go.RowKit Go.Sol
set_option linter.unusedVariables false
set_option linter.unusedSimpArgs false
def zerosN (l : List Int) : Nat := l.countP fun x => decide (x = 0)
structure RSok (cs : List PC) (s : RS) : Prop where
  c : s.c.length = cs.length
  l : s.l.length = cs.length
  ln : ∀ x ∈ s.ln, 0 ≤ x ∧ x < cs.length ∧ 1 ≤ s.l.getD x.toNat 0 ∧ (s.l.getD x.toNat 0 = 1 → (cellAt cs x).k = [])
  z : zerosN s.l + s.ln.length ≤ cs.length
  l3 : ∀ x ∈ s.l, x ≤ 3
theorem zerosN_set {l : List Int} {i : Nat} (hi : i < l.length) (h0 : l[i] = 0) {v : Int} (hv : v ≠ 0) : zerosN (l.set i v) + 1 = zerosN l := by
  unfold zerosN
  induction l generalizing i with
  | nil => simp at hi
  | cons x l ih =>
    cases i with
    | zero => simp at h0; simp [h0, hv]
    | succ i =>
      have := ih (i := i) (by simpa using hi) (by simpa using h0)
      simp only [List.set_cons_succ, List.countP_cons]
      omega
theorem RSok.refer {cs : List PC} {s : RS} (h : RSok cs s) {k own : Int} (ho : 1 ≤ own) (ho3 : own ≤ 3) (ht : (referP cs k own s).1 = true) : RSok cs (referP cs k own s).2 := by
  unfold referP at ht ⊢
  split at ht
  · cases ht
  rename_i h1
  rw [if_neg h1]
  split at ht
  · rename_i h2; rw [if_pos h2]; exact h
  rename_i h2
  rw [if_neg h2]
  have hr : k ≤ (cs.length : Int) - 1 := by
    have : isNum cs.length k = true := by simpa using h1
    exact (of_decide_eq_true this).2
  have hil : k.toNat < s.l.length := by rw [h.l]; omega
  have hgd : s.l.getD k.toNat 0 = s.l[k.toNat] := by simp [hil]
  split at ht
  · rename_i h3
    rw [if_pos h3]
    rw [hgd] at h3
    refine ⟨by simpa using h.c, by simpa using h.l, fun x hx => ?_, ?_, fun x hx => (List.mem_or_eq_of_mem_set hx).elim (h.l3 x) fun e => by omega⟩
    · rcases List.mem_append.1 hx with hx | hx
      · obtain ⟨a1, a2, a3, a4⟩ := h.ln x hx
        have hne : k.toNat ≠ x.toNat := fun e => by rw [← e, hgd, h3] at a3; omega
        have : (s.l.set k.toNat own).getD x.toNat 0 = s.l.getD x.toNat 0 := by simp [List.getElem?_set, hne]
        exact ⟨a1, a2, by rw [this]; exact a3, by rw [this]; exact a4⟩
      · simp at hx
        subst hx
        have : (s.l.set x.toNat own).getD x.toNat 0 = own := by simp [hil]
        refine ⟨by omega, by omega, by rw [this]; exact ho, fun e => ?_⟩
        rw [this] at e
        simp only at ht
        rw [gcP, if_pos e] at ht
        simp only [Bool.and_eq_true, decide_eq_true_eq] at ht
        exact List.eq_nil_of_length_eq_zero ht.2
    · have := zerosN_set hil h3 (v := own) (by omega)
      have := h.z
      simp only [List.length_append, List.length_singleton]
      omega
  · rename_i h3
    rw [if_neg h3]
    exact ⟨by simpa using h.c, h.l, h.ln, h.z, h.l3⟩
/-- levels that are known stay; the line only grows -/
theorem refer_keep {cs : List PC} {s : RS} {k own : Int} : (∀ i, s.l.getD i 0 ≠ 0 → (referP cs k own s).2.l.getD i 0 = s.l.getD i 0) ∧ (∃ t, (referP cs k own s).2.ln = s.ln ++ t) := by
  unfold referP
  split
  · exact ⟨fun _ _ => rfl, [], by simp⟩
  split
  · exact ⟨fun _ _ => rfl, [], by simp⟩
  split
  · rename_i h3
    refine ⟨fun i hi => ?_, [k], rfl⟩
    have hne : k.toNat ≠ i := fun e => hi (e ▸ h3)
    simp [List.getElem?_set, hne]
  · exact ⟨fun _ _ => rfl, [], by simp⟩
theorem refer_sb {cs : List PC} {s : RS} {k own B : Int} (h : SB B s.c) (hl : s.c.length = cs.length) : SB (B + 1) (referP cs k own s).2.c := by
  unfold referP
  split
  · exact h.mono (by omega)
  split
  · exact h.mono (by omega)
  rename_i h1 h2
  have hr : k ≤ (cs.length : Int) - 1 := by
    have : isNum cs.length k = true := by simpa using h1
    exact (of_decide_eq_true this).2
  have hil : k.toNat < s.c.length := by omega
  have hgd : s.c.getD k.toNat 0 = s.c[k.toNat] := by simp [hil]
  have hb := h s.c[k.toNat] (List.getElem_mem hil)
  have := (h.mono (show B ≤ B + 1 by omega)).set k.toNat (v := s.c.getD k.toNat 0 + 1) (by rw [hgd]; omega) (by rw [hgd]; omega)
  split <;> exact this
end Go.Proofs.Ytboccoihmginiaa

namespace Go.Proofs.Ytboccoihmginiaa
open Go.RowKit Go.Sol
set_option linter.unusedVariables false
set_option linter.unusedSimpArgs false
theorem goodI_tail {w : World} {a b : Sl} {gs : List GC} {rs : List Int} {L : Int} {R : Value → World → Prop} {v : Bool} (h : RW w a b gs rs) {g1 g5 : Nat} {sc : Sl}
    (hR : ∀ cs1 w' N' v', Stt w [] cs1 w' N' → v' = Value.bool v → T.ret R v' w' N') {g2 g3 : Nat} {sl sn : Sl} {s : RS} (hsl : s.c.length = gs.length) (hv : v = cntsOk (pcs gs) s.c) {w2 : World} {N2 : NP} (st : Stt w [] (refCh g5 g1 g2 g3 a b L sc sl sn s) w2 N2) :
    T.loop (fun (q : Int) next => f8_impl_GoodCow.L5 R g1 a q (fun z0 => next z0)) 0 w2 N2 := by
  have hna := h.c.n
  have hscn : sc.n = gs.length := by have := (st.ch (i := 0) rfl).rd.n1; simp only [ints_len] at this; omega
  refine t_loop (fun (i : Nat) (q : Int) => q = (i : Int) ∧ i ≤ gs.length ∧ cntsOk (pcs gs) s.c = cntsOk ((pcs gs).drop i) (s.c.drop i)) (fun _ _ => refCh g5 g1 g2 g3 a b L sc sl sn s) (fun i _ => gs.length - i) 0 st ⟨rfl, Nat.zero_le _, rfl⟩ ?_
  rintro i q w2 N2 next ⟨rfl, hi, hce⟩ st hn
  show f8_impl_GoodCow.L5 R g1 a (i : Int) _ w2 N2
  unfold f8_impl_GoodCow.L5
  have hm := h.c.hd.2.1
  refine t_ite (fun h6 => ?_) (fun h6 => ?_)
  · have hil : i < gs.length := by simp [hna] at h6; exact h6
    obtain ⟨ad, hA, _, c0, c1, c2, hrd⟩ := h.c.at hil
    have hkn : gs[i].2.n = gs[i].1.k.length := by simpa using hrd.n1
    have his : i < s.c.length := by omega
    refine t_idx' (i * 3) hA (by omega) (by omega) (by simp) ?_
    refine t_ldc st (fun w' N' s => s.old0 c0) fun w2 N2 st => ?_
    refine t_ldc st (fun w' N' s => s.old0 c1) fun w2 N2 st => ?_
    refine t_ldc st (fun w' N' s => s.old0 c2) fun w2 N2 st => ?_
    refine t_ldc (x := sc) st (fun w' N' st => cellm (c := ptrCh g1 sc) st (by simp [refCh]) rfl (j := 0) rfl) fun w2 N2 st => ?_
    obtain ⟨yd, hY, _⟩ := (st.ch (i := 0) rfl).rd.addr (i := i) (by simp only; omega)
    simp only at hY
    refine t_idx' i hY (by omega) (by omega) (by simp) ?_
    refine t_ldc (x := s.c[i]) st (fun w' N' st => st.cell (i := 0) rfl hY (ints_at (by simp [his]))) fun w2 N2 st => ?_
    rw [cntsOk_drop (by simpa using hil) his] at hce
    have hpi : (pcs gs)[i]'(by simpa using hil) = gs[i].1 := by simp [pcs]
    rw [hpi] at hce
    have fin : ∀ (u : Bool), u = !(cntOk gs[i].1 s.c[i]) → ∀ {w2 N2}, Stt w [] (refCh g5 g1 g2 g3 a b L sc sl sn s) w2 N2 → f8_impl_GoodCow.J6 R next (i : Int) u w2 N2 := by
      intro u hu w2 N2 st
      unfold f8_impl_GoodCow.J6
      refine t_ite (fun h7 => ?_) (fun h7 => ?_)
      · have : cntOk gs[i].1 s.c[i] = false := by rw [h7] at hu; cases hc : cntOk gs[i].1 s.c[i] <;> simp [hc] at hu ⊢
        exact hR _ _ _ _ st (by rw [hv, hce, this]; rfl)
      · have : cntOk gs[i].1 s.c[i] = true := by rw [h7] at hu; cases hc : cntOk gs[i].1 s.c[i] <;> simp [hc] at hu ⊢
        rw [w64s (by omega)]
        exact hn (i + 1) _ _ _ ⟨rfl, hil, by rw [hce, this]; rfl⟩ (by omega) st
    refine t_ite (fun h7 => ?_) (fun h7 => ?_)
    · have h7 : gs[i].1.n ≠ s.c[i] := by simpa using h7
      exact fin _ (by rw [cntOk, decide_eq_false h7]; rfl) st
    have h7 : gs[i].1.n = s.c[i] := by simpa using h7
    refine t_ite (fun h8 => ?_) (fun h8 => ?_)
    · have h8 : gs[i].1.n = 0 := by simpa using h8
      rw [bytes_beq]
      refine t_ite (fun h9 => ?_) (fun h9 => ?_)
      · have h9 : gs[i].1.l ≠ ⟨#[]⟩ := by simpa using h9
        exact fin _ (by rw [cntOk, decide_eq_true h7, decide_eq_false (p := gs[i].1.n ≠ 0) (fun h => h h8), decide_eq_false h9]; rfl) st
      · have h9 : gs[i].1.l = ⟨#[]⟩ := by simpa using h9
        refine fin _ ?_ st
        have e : cntOk gs[i].1 s.c[i] = decide (gs[i].1.k.length = 0) := by rw [cntOk, decide_eq_true h7, decide_eq_false (p := gs[i].1.n ≠ 0) (fun h => h h8), decide_eq_true h9]; rfl
        rw [e, hkn]
        by_cases hk0 : gs[i].1.k.length = 0
        · simp [hk0]
        · rw [decide_eq_false hk0, decide_eq_true (by omega)]; rfl
    · have h8 : gs[i].1.n ≠ 0 := by simpa using h8
      exact fin _ (by rw [cntOk, decide_eq_true h7, decide_eq_true h8]; rfl) st
  · have hil : i = gs.length := by simp [hna] at h6; omega
    subst hil
    refine hR _ _ _ _ st ?_
    rw [hv, hce, List.drop_of_length_le (by simp)]
    simp [cntsOk]
end Go.Proofs.Ytboccoihmginiaa

namespace Go.Proofs.Ytboccoihmginiaa
open Go.RowKit Go.Sol
set_option linter.unusedVariables false
set_option linter.unusedSimpArgs false
theorem ref_apt {w w' : World} {N : NP} {cs : List Ch} {a : Sl} {gs : List GC} (h : RC w a gs) (st : Stt w [] cs w' N) : Apt a (fps cs) ∧ ∀ g ∈ gs, Apt g.2 (fps cs) := by
  have hF : ∀ b ∈ fps cs, w.heap.size ≤ b := fun b hb => (st.src b hb).elim (fun h => by simp [fps] at h) id
  exact ⟨Rd.apt h.hd (by omega) hF, fun g hg => Rd.apt (h.kd g hg) (by omega) hF⟩
theorem goodI_kids {w : World} {a b : Sl} {gs : List GC} {L : Int} {R : Value → World → Prop} (h : RC w a gs) (hg80 : gs.length ≤ 80) (hkl : ∀ g ∈ gs, g.1.k.length ≤ 1048576) {g0 g1 g2 g3 : Nat} {sc sl sn : Sl} {s : RS} {next116 : Int → Tm} {i : Nat} (hi : i < s.ln.length) (hs : RSok (pcs gs) s) {B : Int} (hB0 : 0 ≤ B) (hB : B ≤ 1000000000) (hb : SB B s.c)
    (hcont : ∀ sn' s' w' N', Stt w [] (refCh g0 g1 g2 g3 a b L sc sl sn' s') w' N' → RSok (pcs gs) s' → SB (B + 1048576) s'.c → refsP (pcs gs) (s.l.getD (s.ln.getD i 0).toNat 0 - 1) (cellAt (pcs gs) (s.ln.getD i 0)).k s = (true, s') → (∃ t, s'.ln = s.ln ++ t) → next116 (IntKind.i64.wrap ((i : Int) + 1)) w' N')
    (hfail : ∀ sn' s' w' N', Stt w [] (refCh g0 g1 g2 g3 a b L sc sl sn' s') w' N' → (refsP (pcs gs) (s.l.getD (s.ln.getD i 0).toNat 0 - 1) (cellAt (pcs gs) (s.ln.getD i 0)).k s).1 = false → T.ret R (.bool false) w' N')
    {x : Nat} (hl3 : s.l.getD x 0 ≤ 3) (hx : s.ln.getD i 0 = (x : Int)) (hxl : x < gs.length) {w2 : World} {N2 : NP} (st : Stt w [] (refCh g0 g1 g2 g3 a b L sc sl sn s) w2 N2) :
    T.loop (fun (q : Int) next => f8_impl_GoodCow.L4 R g0 g1 g2 g3 next116 (i : Int) gs[x].2 q (fun z0 => next z0)) 0 w2 N2 := by
  have hcell := cellAt_pcs hxl
  rw [hx, hcell, Int.toNat_natCast] at hcont hfail
  have hrd := h.kd _ (List.getElem_mem hxl)
  have hkn : gs[x].2.n = gs[x].1.k.length := by simpa using hrd.n1
  have hkx := hkl _ (List.getElem_mem hxl)
  have hlnx := hs.ln (x : Int) (by rw [← hx]; simp [hi])
  rw [Int.toNat_natCast, hcell] at hlnx
  generalize hown : s.l.getD x 0 - 1 = own at *
  refine t_loop (fun (p : Nat × RS × Sl) (q : Int) => q = (p.1 : Int) ∧ p.1 ≤ gs[x].1.k.length ∧ RSok (pcs gs) p.2.1 ∧ SB (B + p.1) p.2.1.c ∧ refsP (pcs gs) own gs[x].1.k s = refsP (pcs gs) own (gs[x].1.k.drop p.1) p.2.1 ∧ (∃ t, p.2.1.ln = s.ln ++ t) ∧ p.2.1.l.getD x 0 = s.l.getD x 0) (fun p _ => refCh g0 g1 g2 g3 a b L sc sl p.2.2 p.2.1) (fun p _ => gs[x].1.k.length - p.1) (0, s, sn) st ⟨rfl, Nat.zero_le _, hs, by simpa using hb, rfl, ⟨[], by simp⟩, rfl⟩ ?_
  rintro ⟨j, s2, sn2⟩ q w2 N2 next ⟨rfl, hj, hs2, hb2, he, ⟨t, ht⟩, hlx⟩ st hn
  simp only at hj hs2 hb2 he ht hlx st hn
  show f8_impl_GoodCow.L4 R g0 g1 g2 g3 next116 (i : Int) gs[x].2 (j : Int) _ w2 N2
  unfold f8_impl_GoodCow.L4
  refine t_ite (fun h5 => ?_) (fun h5 => ?_)
  · have hjl : j < gs[x].1.k.length := by simp [hkn] at h5; exact h5
    have hown1 : 1 ≤ own := by
      rcases Classical.em (s.l.getD x 0 = 1) with h1 | h1
      · have := hlnx.2.2.2 h1; rw [this] at hjl; simp at hjl
      · have := hlnx.2.2.1; omega
    obtain ⟨kd, hK, hkc⟩ := hrd.addr (i := j) (by omega)
    refine t_idx' j hK (by omega) (by omega) (by simp) ?_
    refine t_ldc (x := gs[x].1.k[j]) st (fun w' N' s => s.old0 (hkc j _ (ints_at (by simp [hjl])))) fun w2 N2 st => ?_
    refine t_ldc (x := sl) st (fun w' N' st => cellm (c := ptrCh g2 sl) st (by simp [refCh]) rfl (j := 0) rfl) fun w2 N2 st => ?_
    refine t_ldc (x := sn2) st (fun w' N' st => cellm (c := ptrCh g3 sn2) st (by simp [refCh]) rfl (j := 0) rfl) fun w2 N2 st => ?_
    have hi2 : i < s2.ln.length := by rw [ht, List.length_append]; omega
    have hln2 : s2.ln[i]? = some (x : Int) := by
      rw [ht, List.getElem?_append_left hi]
      have : s.ln[i]? = some s.ln[i] := List.getElem?_eq_getElem hi
      rw [this]; congr 1
      rw [← hx]; simp [hi]
    have hsnn : sn2.n = s2.ln.length := by have := (st.ch (i := 2) rfl).rd.n1; simp only [ints_len] at this; omega
    have hsln : sl.n = s2.l.length := by have := (st.ch (i := 1) rfl).rd.n1; simp only [ints_len] at this; omega
    have hl2 : s2.l.length = gs.length := by have := hs2.l; simpa using this
    obtain ⟨nd, hN, _⟩ := (st.ch (i := 2) rfl).rd.addr (i := i) (by simp only; omega)
    obtain ⟨ld, hL, _⟩ := (st.ch (i := 1) rfl).rd.addr (i := x) (by simp only; omega)
    simp only at hN hL
    refine t_idx' i hN (by omega) (by omega) (by simp) ?_
    refine t_ldc (x := (x : Int)) st (fun w' N' st => st.cell (i := 2) rfl hN (ints_at hln2)) fun w2 N2 st => ?_
    refine t_idx' x hL (by omega) (by omega) (by simp) ?_
    have hxs2 : x < s2.l.length := by omega
    refine t_ldc (x := s2.l.getD x 0) st (fun w' N' st => st.cell (i := 1) rfl hL (ints_at (by simp [hxs2]))) fun w2 N2 st => ?_
    rw [hlx, w64i (x := s.l.getD x 0 - 1) (by omega) (by omega), hown]
    have hz := hs2.z
    rw [pcs_len] at hz
    have hc2 : s2.c.length = gs.length := by have := hs2.c; simpa using this
    obtain ⟨hap, hap2⟩ := ref_apt h st
    refine t_call (cs := refCh g0 g1 g2 g3 a b L sc sl sn2 s2) (rest := []) (st.eq (List.append_nil _).symm) (fun o => refer_ok (h.st st) o hc2 hl2 (by omega) (hb2.mono (by omega)) hap hap2) fun y cs1 w2 N2 hp st => ?_
    obtain ⟨sn3, rfl, rfl⟩ := hp
    replace st := st.eq (List.append_nil _)
    rw [List.drop_eq_getElem_cons hjl, refsP] at he
    refine t_ite (fun h6 => ?_) (fun h6 => ?_)
    · have hf : (referP (pcs gs) gs[x].1.k[j] own s2).1 = false := by simpa using h6
      exact hfail sn3 _ _ _ st (by rw [he, if_neg (by rw [hf]; simp)])
    · have ht' : (referP (pcs gs) gs[x].1.k[j] own s2).1 = true := by simpa using h6
      show next _ _ _
      rw [w64s (by simp only [maxLen]; omega)]
      have hk := refer_keep (cs := pcs gs) (s := s2) (k := gs[x].1.k[j]) (own := own)
      obtain ⟨t2, ht2⟩ := hk.2
      refine hn (j + 1, (referP (pcs gs) gs[x].1.k[j] own s2).2, sn3) _ _ _ ⟨rfl, hjl, hs2.refer hown1 (by omega) ht', ?_, ?_, ⟨t ++ t2, by simp only; rw [ht2, ht, List.append_assoc]⟩, ?_⟩ (by simp only; omega) st
      · have := refer_sb (cs := pcs gs) (k := gs[x].1.k[j]) (own := own) hb2 hs2.c
        exact this.mono (by simp only; omega)
      · rw [he, if_pos ht']
      · simp only
        rw [hk.1 x (by rw [hlx]; omega), hlx]
  · have hjl : j = gs[x].1.k.length := by simp [hkn] at h5; omega
    subst hjl
    rw [List.drop_length, refsP] at he
    exact hcont sn2 s2 _ _ st hs2 (hb2.mono (by omega)) he ⟨t, ht⟩
end Go.Proofs.Ytboccoihmginiaa

namespace Go.Proofs.Ytboccoihmginiaa
open Go.RowKit Go.Sol
set_option linter.unusedVariables false
set_option linter.unusedSimpArgs false
theorem goodI_line {w : World} {a b : Sl} {gs : List GC} {rs : List Int} {L : Int} {R : Value → World → Prop} {v : Bool} (h : RW w a b gs rs) (hg80 : gs.length ≤ 80) (hkl : ∀ g ∈ gs, g.1.k.length ≤ 1048576) {g0 g1 g2 g3 : Nat} {sc sl sn : Sl} {s : RS} (hs : RSok (pcs gs) s) (hb : SB 8 s.c)
    (hR : ∀ cs1 w' N' v', Stt w [] cs1 w' N' → v' = Value.bool v → T.ret R v' w' N') (hv : v = ((lineP (pcs gs) ((pcs gs).length + 1) 0 s).1 && cntsOk (pcs gs) (lineP (pcs gs) ((pcs gs).length + 1) 0 s).2.c))
    {w2 : World} {N2 : NP} (st : Stt w [] (refCh g0 g1 g2 g3 a b L sc sl sn s) w2 N2) :
    T.loop (fun (q : Int) next => f8_impl_GoodCow.L3 R g0 g1 g2 g3 q (fun z0 => next z0)) 0 w2 N2 := by
  have hna := h.c.n
  generalize hr0 : lineP (pcs gs) ((pcs gs).length + 1) 0 s = r0 at hv
  refine t_loop (fun (p : Nat × RS × Sl) (q : Int) => q = (p.1 : Int) ∧ p.1 ≤ gs.length ∧ RSok (pcs gs) p.2.1 ∧ SB (8 + p.1 * 1048576) p.2.1.c ∧ r0 = lineP (pcs gs) ((pcs gs).length + 1 - p.1) p.1 p.2.1) (fun p _ => refCh g0 g1 g2 g3 a b L sc sl p.2.2 p.2.1) (fun p _ => gs.length - p.1) (0, s, sn) st ⟨rfl, Nat.zero_le _, hs, by simpa using hb, hr0.symm⟩ ?_
  rintro ⟨i, s2, sn2⟩ q w2 N2 next ⟨rfl, hi, hs2, hb2, he⟩ st hn
  simp only at hi hs2 hb2 he st hn
  have hz := hs2.z
  rw [pcs_len] at hz
  have hf : (pcs gs).length + 1 - i = (gs.length - i) + 1 := by rw [pcs_len]; omega
  rw [hf, lineP] at he
  show f8_impl_GoodCow.L3 R g0 g1 g2 g3 (i : Int) _ w2 N2
  unfold f8_impl_GoodCow.L3
  refine t_ldc (x := sn2) st (fun w' N' st => cellm (c := ptrCh g3 sn2) st (by simp [refCh]) rfl (j := 0) rfl) fun w2 N2 st => ?_
  have hsnn : sn2.n = s2.ln.length := by have := (st.ch (i := 2) rfl).rd.n1; simp only [ints_len] at this; omega
  refine t_ite (fun h5 => ?_) (fun h5 => ?_)
  · have hil : i < s2.ln.length := by simp [hsnn] at h5; exact h5
    rw [if_pos hil] at he
    have hln := hs2.ln s2.ln[i] (List.getElem_mem hil)
    obtain ⟨x, hx⟩ : ∃ x : Nat, s2.ln[i] = (x : Int) := ⟨s2.ln[i].toNat, by omega⟩
    have hgx : s2.ln.getD i 0 = (x : Int) := by simp [hil, hx]
    have hxl : x < gs.length := by have := hln.2.1; rw [hx, pcs_len] at this; omega
    refine t_ldc (x := a) st (fun w' N' st => cellm (c := hdrCh g0 a b L) st (by simp [refCh]) rfl (j := 0) rfl) fun w2 N2 st => ?_
    refine t_ldc (x := sn2) st (fun w' N' st => cellm (c := ptrCh g3 sn2) st (by simp [refCh]) rfl (j := 0) rfl) fun w2 N2 st => ?_
    obtain ⟨nd, hN, _⟩ := (st.ch (i := 2) rfl).rd.addr (i := i) (by simp only; omega)
    simp only at hN
    refine t_idx' i hN (by omega) (by omega) (by simp) ?_
    refine t_ldc (x := (x : Int)) st (fun w' N' st => st.cell (i := 2) rfl hN (ints_at (by simp [hil, hx]))) fun w2 N2 st => ?_
    obtain ⟨ad, hA, _, c0, c1, c2, hrd⟩ := h.c.at hxl
    refine t_idx' (x * 3) hA (by omega) (by omega) (by simp) ?_
    refine t_ldc st (fun w' N' s => s.old0 c2) fun w2 N2 st => ?_
    have hl2 : s2.l.length = gs.length := by have := hs2.l; simpa using this
    have hl3 : s2.l.getD x 0 ≤ 3 := by
      have : x < s2.l.length := by omega
      simp only [List.getD_eq_getElem?_getD, List.getElem?_eq_getElem this, Option.getD_some]
      exact hs2.l3 _ (List.getElem_mem this)
    refine goodI_kids (i := i) h.c hg80 hkl hil hs2 (B := 8 + i * 1048576) (by omega) (by omega) hb2 (fun sn' s' w' N' st hs' hb' he' ht => ?_) (fun sn' s' w' N' st he' => ?_) hl3 hgx hxl st
    · rw [w64s (by simp only [maxLen]; omega)]
      refine hn (i + 1, s', sn') _ _ _ ⟨rfl, by simp only; omega, hs', hb'.mono (by simp only; omega), ?_⟩ (by simp only; omega) st
      rw [he]
      simp only [he', if_true]
      rw [show (pcs gs).length + 1 - (i + 1) = gs.length - i by rw [pcs_len]; omega]
    · refine hR _ _ _ _ st ?_
      rw [hv, he]
      simp only [he']
      rfl
  · have hil : ¬ i < s2.ln.length := by simp [hsnn] at h5; omega
    rw [if_neg hil] at he
    refine t_ldc (x := a) st (fun w' N' st => cellm (c := hdrCh g0 a b L) st (by simp [refCh]) rfl (j := 0) rfl) fun w2 N2 st => ?_
    refine goodI_tail h hR (by have := hs2.c; simpa using this) ?_ st
    rw [hv, he]; rfl
end Go.Proofs.Ytboccoihmginiaa

namespace Go.Proofs.Ytboccoihmginiaa
open Go.RowKit Go.Sol
set_option linter.unusedVariables false
set_option linter.unusedSimpArgs false
theorem zerosN_zeros (cs : List PC) : zerosN (zerosP cs) = cs.length := by
  unfold zerosN zerosP
  rw [List.countP_replicate]; simp
theorem RSok.start (cs : List PC) : RSok cs ⟨zerosP cs, zerosP cs, []⟩ :=
  ⟨by simp [zerosP], by simp [zerosP], fun x hx => by simp at hx, by simp [zerosN_zeros], fun x hx => by have := List.eq_of_mem_replicate hx; omega⟩
theorem goodI_ok {w : World} {a b : Sl} {gs : List GC} {rs : List Int} {L : Int} (h : RW w a b gs rs) (hkl : ∀ g ∈ gs, g.1.k.length ≤ 1048576) :
    Calls Try.prog 8 #[.agg #[Sl.v a, Sl.v b, .int .i64 L]] w fun e w' => e = .returned (.bool (goodI (pcs gs) rs L)) ∧ Below w.heap.size w w' := by
  have hna := h.c.n
  have hnb : b.n = rs.length := by simpa using h.r.n1
  refine run_pure (fun R => f8_impl_GoodCow.ok R a b L w) fun R hR w1 N1 st => ?_
  unfold f8_impl_GoodCow.T
  refine t_new 3 1 rfl (by decide) st fun g0 w2 N2 st => ?_
  replace st : Stt w [] [hdrCh g0 a b L] w2 N2 := st
  have box0 : ∀ {w' N'}, Stt w [] [hdrCh g0 a b L] w' N' → BoxRd w' (ad0 g0) a b L := fun {w' N'} st => ⟨cellm st (List.mem_singleton_self _) rfl (j := 0) rfl, cellm st (List.mem_singleton_self _) rfl (j := 1) rfl, cellm st (List.mem_singleton_self _) rfl (j := 2) rfl⟩
  have hno : rngB (pcs gs) rs L = false → ∀ {w' N'}, Stt w [] [hdrCh g0 a b L] w' N' → f8_impl_GoodCow.J1 R g0 true w' N' := by
    intro hn w' N' st
    unfold f8_impl_GoodCow.J1
    exact t_itet rfl (hR _ _ _ _ st (by rw [goodI, hn]; rfl))
  have hyes : rngB (pcs gs) rs L = true → ∀ {w' N'}, Stt w [] [hdrCh g0 a b L] w' N' → f8_impl_GoodCow.J1 R g0 false w' N' := by
    intro hy w' N' st
    have hg : goodI (pcs gs) rs L = ((rootsI (pcs gs) rs L).1 && ((lineI (pcs gs) rs L).1 && cntsOk (pcs gs) (lineI (pcs gs) rs L).2.c)) := by rw [goodI, hy]; rfl
    rw [hg] at hR
    have hr := hy
    simp only [rngB, Bool.and_eq_true, decide_eq_true_eq, pcs_len] at hr
    obtain ⟨⟨hL1, hL3⟩, hc80, hr1, hr8⟩ := hr
    unfold f8_impl_GoodCow.J1
    refine t_itef rfl ?_
    refine t_ldc (x := a) st (fun w' N' st => (box0 st).1) fun w2 N2 st => ?_
    refine t_ldc (x := a) st (fun w' N' st => (box0 st).1) fun w2 N2 st => ?_
    refine t_ass (by omega) (t_ass (by omega) ?_)
    have hmk : (madeCells (Value.cells (.int .i64 0)) (gs.length * 1)).toList = ints (zerosP (pcs gs)) := by rw [made24]; simp [zerosP]
    refine t_new 1 gs.length (by rw [size_madeCells, hna]; simp) (by simp only [maxLen]; omega) st fun g38 w2 N2 st => ?_
    refine t_chk st (fun w' N' st => cellm (c := hdrCh g0 a b L) st (by simp) rfl (j := 0) rfl) fun w2 N2 st => ?_
    refine t_new 1 gs.length (by rw [size_madeCells, hna]; simp) (by simp only [maxLen]; omega) st fun g40 w2 N2 st => ?_
    refine t_new 1 1 rfl (by decide) st fun g41 w2 N2 st => ?_
    refine t_new 1 1 rfl (by decide) st fun g39 w2 N2 st => ?_
    refine t_stc (i := 1) (j := 0) st rfl rfl (by simp) rfl fun w2 N2 st => ?_
    refine t_new 1 0 rfl (by decide) st fun g48 w2 N2 st => ?_
    refine t_new 1 1 rfl (by decide) st fun g50 w2 N2 st => ?_
    refine t_stc (i := 0) (j := 0) st rfl rfl (by simp) rfl fun w2 N2 st => ?_
    replace st : Stt w [] (refCh g0 g41 g39 g50 a b L ⟨some ⟨g40, 0, none⟩, gs.length, gs.length⟩ ⟨some ⟨g38, 0, none⟩, gs.length, gs.length⟩ ⟨some ⟨g48, 0, none⟩, 0, 0⟩ ⟨zerosP (pcs gs), zerosP (pcs gs), []⟩) w2 N2 := by
      refine st.perm (perm_idx [4, 5, 1, 3, 2, 0, 6] (by show List.Perm [4, 5, 1, 3, 2, 0, 6] (List.range 7); decide) ?_)
      simp only [refCh, ptrCh, hna, Int.toNat_natCast, hmk]
      rfl
    refine t_ldc (x := b) st (fun w' N' st => cellm (c := hdrCh g0 a b L) st (by simp [refCh]) rfl (j := 1) rfl) fun w2 N2 st => ?_
    have hz0 : SB 0 (zerosP (pcs gs)) := fun x hx => by have := List.eq_of_mem_replicate hx; omega
    generalize (⟨some ⟨g40, 0, none⟩, gs.length, gs.length⟩ : Sl) = sc at st
    generalize (⟨some ⟨g38, 0, none⟩, gs.length, gs.length⟩ : Sl) = sl at st
    generalize (⟨some ⟨g48, 0, none⟩, 0, 0⟩ : Sl) = sn at st
    generalize hr0 : rootsI (pcs gs) rs L = r0 at hR
    refine t_loop (fun (p : Nat × RS × Sl) (q : Int) => q = (p.1 : Int) ∧ p.1 ≤ rs.length ∧ RSok (pcs gs) p.2.1 ∧ SB p.1 p.2.1.c ∧ r0 = refsP (pcs gs) L (rs.drop p.1) p.2.1) (fun p _ => refCh g0 g41 g39 g50 a b L sc sl p.2.2 p.2.1) (fun p _ => rs.length - p.1) (0, ⟨zerosP (pcs gs), zerosP (pcs gs), []⟩, sn) st ⟨rfl, Nat.zero_le _, RSok.start _, by simpa using hz0, hr0.symm⟩ ?_
    rintro ⟨j, s, sn⟩ q w2 N2 next ⟨rfl, hj, hs, hb, he⟩ st hn
    simp only at hj hs hb he st hn
    show f8_impl_GoodCow.L2 R g0 g41 g39 g50 b (j : Int) _ w2 N2
    unfold f8_impl_GoodCow.L2
    refine t_ite (fun h5 => ?_) (fun h5 => ?_)
    · have hjl : j < rs.length := by simp [hnb] at h5; exact h5
      obtain ⟨bd, hB, hbc⟩ := h.r.addr (i := j) (by omega)
      refine t_idx' j hB (by omega) (by omega) (by simp) ?_
      refine t_ldc (x := rs[j]) st (fun w' N' s => s.old0 (hbc j _ (ints_at (by simp [hjl])))) fun w2 N2 st => ?_
      refine t_ldc (x := L) st (fun w' N' st => cellm (c := hdrCh g0 a b L) st (by simp [refCh]) rfl (j := 2) rfl) fun w2 N2 st => ?_
      rw [List.drop_eq_getElem_cons hjl, refsP] at he
      have hz := hs.z
      rw [pcs_len] at hz
      have hc2 : s.c.length = gs.length := by have := hs.c; simpa using this
      have hl2 : s.l.length = gs.length := by have := hs.l; simpa using this
      obtain ⟨hap, hap2⟩ := ref_apt h.c st
      refine t_call (cs := refCh g0 g41 g39 g50 a b L sc sl sn s) (rest := []) (st.eq (List.append_nil _).symm) (fun o => refer_ok (h.c.st st) o hc2 hl2 (by omega) (hb.mono (by omega)) hap hap2) fun y cs1 w2 N2 hp st => ?_
      obtain ⟨sn3, rfl, rfl⟩ := hp
      replace st := st.eq (List.append_nil _)
      refine t_ite (fun h6 => ?_) (fun h6 => ?_)
      · have hf : (referP (pcs gs) rs[j] L s).1 = false := by simpa using h6
        exact hR _ _ _ _ st (by rw [he, if_neg (by rw [hf]; simp)]; rfl)
      · have ht : (referP (pcs gs) rs[j] L s).1 = true := by simpa using h6
        show next _ _ _
        rw [w64s (by simp only [maxLen]; omega)]
        refine hn (j + 1, (referP (pcs gs) rs[j] L s).2, sn3) _ _ _ ⟨rfl, hjl, hs.refer hL1 hL3 ht, ?_, ?_⟩ (by simp only; omega) st
        · have := refer_sb (cs := pcs gs) (k := rs[j]) (own := L) hb hs.c
          exact this.mono (by simp only; omega)
        · rw [he, if_pos ht]
    · have hjl : j = rs.length := by simp [hnb] at h5; omega
      subst hjl
      rw [List.drop_length, refsP] at he
      refine goodI_line h hc80 hkl hs (hb.mono (by omega)) hR ?_ st
      rw [lineI, hr0, he]
      rfl
  refine t_ldc (x := L) st (fun w' N' st => (box0 st).2.2) fun w2 N2 st => ?_
  refine t_callp st (within_ok _ _ _) fun w2 N2 st => ?_
  refine t_ite (fun h1 => ?_) (fun h1 => ?_)
  · exact hno (by simp only [Bool.not_eq_true'] at h1; rw [rngB, h1]; rfl) st
  have h1' : decide (1 ≤ L ∧ L ≤ 3) = true := by simpa only [Bool.not_eq_false'] using h1
  refine t_ldc (x := a) st (fun w' N' st => (box0 st).1) fun w2 N2 st => ?_
  refine t_ite (fun h2 => ?_) (fun h2 => ?_)
  · have h2 : ¬ (pcs gs).length ≤ 80 := by simp [hna] at h2; simp; omega
    exact hno (by rw [rngB, h1', decide_eq_false h2]; rfl) st
  have h2 : (pcs gs).length ≤ 80 := by simp [hna] at h2; simp; omega
  refine t_ldc (x := b) st (fun w' N' st => (box0 st).2.1) fun w2 N2 st => ?_
  refine t_callp st (within_ok _ _ _) fun w2 N2 st => ?_
  have h3 : decide ((1 : Int) ≤ (b.n : Int) ∧ (b.n : Int) ≤ 8) = decide (1 ≤ rs.length ∧ rs.length ≤ 8) := by rw [decide_eq_decide, hnb]; omega
  rw [h3]
  have h4 : rngB (pcs gs) rs L = decide (1 ≤ rs.length ∧ rs.length ≤ 8) := by rw [rngB, h1', decide_eq_true h2]; rfl
  rw [← h4]
  cases hr : rngB (pcs gs) rs L with
  | true => exact hyes hr st
  | false => exact hno hr st
end Go.Proofs.Ytboccoihmginiaa

namespace Go.Proofs.Ytboccoihmginiaa
open Go.RowKit Go.Sol
set_option linter.unusedVariables false
set_option linter.unusedSimpArgs false
abbrev cAt (cs : List PC) (j : Nat) : PC := cs.getD j noP
def kidsN (cs : List PC) (j : Nat) : List Int := (cAt cs j).k
/-- a cell is right at its level -/
def Right (cs : List PC) (lv : Nat → Int) (j : Nat) : Prop :=
  (lv j = 1 ∧ (cAt cs j).k = [] ∧ 1 ≤ (cAt cs j).l.size ∧ (cAt cs j).l.size ≤ 8) ∨
  (2 ≤ lv j ∧ lv j ≤ 3 ∧ (cAt cs j).l = ⟨#[]⟩ ∧ (cAt cs j).k.length = 4 ∧ (∃ x ∈ (cAt cs j).k, 0 ≤ x) ∧ ∀ x ∈ (cAt cs j).k, x = -1 ∨ (0 ≤ x ∧ x < cs.length ∧ lv x.toNat = lv j - 1))
structure Gd (cs : List PC) (rs : List Int) (L : Int) (lv : Nat → Int) : Prop where
  R : ∀ r ∈ rs, r = -1 ∨ (0 ≤ r ∧ r < cs.length ∧ lv r.toNat = L)
  K : ∀ j, j < cs.length → (cAt cs j).n ≠ 0 → Right cs lv j
  N : ∀ j, j < cs.length → (cAt cs j).n = ((rs ++ cs.flatMap (·.k)).count (j : Int) : Nat)
  E : ∀ j, j < cs.length → (cAt cs j).n = 0 → (cAt cs j).l = ⟨#[]⟩ ∧ (cAt cs j).k = []
/-- what a check has seen at its end: the cells come to, their levels, the counts -/
structure Fin (cs : List PC) (rs : List Int) (L : Int) (lv : Nat → Int) (c : List Int) (vis : List Nat) : Prop where
  len : c.length = cs.length
  nd : vis.Nodup
  V : ∀ j ∈ vis, j < cs.length ∧ Right cs lv j
  R : ∀ r ∈ rs, r = -1 ∨ (0 ≤ r ∧ r.toNat ∈ vis ∧ lv r.toNat = L)
  S : ∀ j ∈ vis, ∀ x ∈ kidsN cs j, x = -1 ∨ (0 ≤ x ∧ x.toNat ∈ vis)
  C : ∀ j, j < cs.length → c.getD j 0 = ((rs ++ vis.flatMap (kidsN cs)).count (j : Int) : Nat)
theorem flat_range (cs : List PC) : cs.flatMap (·.k) = (List.range cs.length).flatMap (kidsN cs) := by
  have : cs.map (·.k) = (List.range cs.length).map (kidsN cs) := by
    apply List.ext_getElem
    · simp
    · intro i h1 h2
      simp at h1
      simp [kidsN, cAt, h1]
  rw [List.flatMap_def, this, ← List.flatMap_def]
theorem flat_filter {α : Type} (p : Nat → Bool) (f : Nat → List α) (l : List Nat) (h : ∀ j ∈ l, p j = false → f j = []) : (l.filter p).flatMap f = l.flatMap f := by
  induction l with
  | nil => rfl
  | cons a l ih =>
    have ih := ih fun j hj => h j (List.mem_cons_of_mem _ hj)
    cases hp : p a with
    | true => rw [List.filter_cons_of_pos hp]; simp [ih]
    | false =>
      rw [List.filter_cons_of_neg (by simp [hp])]
      simp [ih, h a (List.mem_cons_self) hp]
theorem flat_all {cs : List PC} {vis : List Nat} (nd : vis.Nodup) (hv : ∀ j ∈ vis, j < cs.length) (hd : ∀ j, j < cs.length → j ∉ vis → kidsN cs j = []) : (vis.flatMap (kidsN cs)).Perm (cs.flatMap (·.k)) := by
  rw [flat_range, ← flat_filter (fun j => decide (j ∈ vis)) (kidsN cs) (List.range cs.length) fun j hj hp => hd j (by simpa using hj) (by simpa using hp)]
  refine List.Perm.flatMap_right _ ?_
  refine (List.perm_ext_iff_of_nodup nd (List.nodup_range.filter _)).2 fun j => ?_
  simp only [List.mem_filter, List.mem_range, decide_eq_true_eq]
  exact ⟨fun h => ⟨hv j h, h⟩, And.right⟩
theorem cntsOk_iff {cs : List PC} {c : List Int} (h : c.length = cs.length) : cntsOk cs c = true ↔ ∀ j, j < cs.length → cntOk (cAt cs j) (c.getD j 0) = true := by
  induction cs generalizing c with
  | nil => cases c <;> simp [cntsOk]
  | cons x cs ih =>
    cases c with
    | nil => simp at h
    | cons y c =>
      simp only [cntsOk, Bool.and_eq_true]
      rw [ih (by simpa using h)]
      constructor
      · rintro ⟨h1, h2⟩ j hj
        cases j with
        | zero => exact h1
        | succ j => exact h2 j (by simpa using hj)
      · intro h1
        exact ⟨h1 0 (by simp), fun j hj => h1 (j + 1) (by simpa using hj)⟩
theorem cntOk_iff {x : PC} {n : Int} : cntOk x n = true ↔ x.n = n ∧ (x.n = 0 → x.l = ⟨#[]⟩ ∧ x.k = []) := by
  unfold cntOk
  simp only [Bool.and_eq_true, Bool.or_eq_true, decide_eq_true_eq]
  constructor
  · rintro ⟨h1, h2⟩
    refine ⟨h1, fun h0 => ?_⟩
    rcases h2 with h2 | ⟨h2, h3⟩
    · exact absurd h0 h2
    · exact ⟨h2, List.length_eq_zero_iff.1 h3⟩
  · rintro ⟨h1, h2⟩
    refine ⟨h1, ?_⟩
    by_cases h0 : x.n = 0
    · exact .inr ⟨(h2 h0).1, by simp [(h2 h0).2]⟩
    · exact .inl h0
section
variable {cs : List PC} {rs : List Int} {L : Int} {lv lv' : Nat → Int} {c : List Int} {vis : List Nat}
theorem Fin.refs (f : Fin cs rs L lv c vis) {x : Int} (h : x ∈ rs ++ vis.flatMap (kidsN cs)) : x = -1 ∨ (0 ≤ x ∧ x.toNat ∈ vis) := by
  rcases List.mem_append.1 h with h | h
  · exact (f.R x h).imp_right fun h => ⟨h.1, h.2.1⟩
  · obtain ⟨j, hj, hx⟩ := List.mem_flatMap.1 h
    exact f.S j hj x hx
theorem Fin.good (f : Fin cs rs L lv c vis) (h : cntsOk cs c = true) : Gd cs rs L lv := by
  have hc := (cntsOk_iff f.len).1 h
  have hdead : ∀ j, j < cs.length → j ∉ vis → (cAt cs j).n = 0 ∧ (cAt cs j).l = ⟨#[]⟩ ∧ kidsN cs j = [] := by
    intro j hj hv
    have h0 : (rs ++ vis.flatMap (kidsN cs)).count (j : Int) = 0 := by
      refine List.count_eq_zero.2 fun hm => ?_
      rcases f.refs hm with h | h
      · omega
      · exact hv (by simpa using h.2)
    have hk := cntOk_iff.1 (hc j hj)
    rw [f.C j hj, h0] at hk
    exact ⟨hk.1, hk.2 hk.1⟩
  have hp := flat_all f.nd (fun j hj => (f.V j hj).1) fun j hj hv => (hdead j hj hv).2.2
  refine ⟨fun r hr => (f.R r hr).imp_right fun h => ⟨h.1, ?_, h.2.2⟩, fun j hj hn => ?_, fun j hj => ?_, fun j hj h0 => (cntOk_iff.1 (hc j hj)).2 h0⟩
  · have := (f.V _ h.2.1).1; omega
  · by_cases hv : j ∈ vis
    · exact (f.V j hv).2
    · exact absurd (hdead j hj hv).1 hn
  · rw [(cntOk_iff.1 (hc j hj)).1, f.C j hj, (List.Perm.append_left rs hp).count_eq]
theorem Gd.live (g : Gd cs rs L lv) {j : Nat} (hj : j < cs.length) (hm : (j : Int) ∈ rs ++ cs.flatMap (·.k)) : (cAt cs j).n ≠ 0 := by
  rw [g.N j hj]
  have := List.count_pos_iff.2 hm
  omega
theorem Gd.liveK (g : Gd cs rs L lv) {i : Nat} {x : Int} (hx : x ∈ kidsN cs i) (h0 : 0 ≤ x) (hl : x < cs.length) : (cAt cs x.toNat).n ≠ 0 := by
  refine g.live (by omega) (List.mem_append_right _ ?_)
  rw [flat_range]
  by_cases hi : i < cs.length
  · exact List.mem_flatMap.2 ⟨i, by simpa using hi, by rw [Int.toNat_of_nonneg h0]; exact hx⟩
  · simp [kidsN, cAt, hi, noP] at hx
theorem Gd.cover (g : Gd cs rs L lv) (hR : ∀ r ∈ rs, r = -1 ∨ r.toNat ∈ vis) (hS : ∀ j ∈ vis, ∀ x ∈ kidsN cs j, x = -1 ∨ x.toNat ∈ vis) : ∀ (m : Nat) (j : Nat), j < cs.length → (cAt cs j).n ≠ 0 → 3 - lv j = m → j ∈ vis := by
  intro m
  induction m using Nat.strongRecOn with
  | ind m ih =>
    intro j hj hn hm
    have hcnt : 0 < (rs ++ cs.flatMap (·.k)).count (j : Int) := by
      have := g.N j hj
      omega
    rcases List.mem_append.1 (List.count_pos_iff.1 hcnt) with h | h
    · rcases hR _ h with h | h
      · omega
      · simpa using h
    · rw [flat_range] at h
      obtain ⟨i, hi, hx⟩ := List.mem_flatMap.1 h
      have hi : i < cs.length := by simpa using hi
      have hni : (cAt cs i).n ≠ 0 := fun h0 => by
        have := (g.E i hi h0).2
        unfold kidsN at hx
        rw [this] at hx; simp at hx
      rcases g.K i hi hni with ⟨_, h2, _⟩ | ⟨h1, h2, _, _, _, h3⟩
      · unfold kidsN at hx; rw [h2] at hx; simp at hx
      · rcases h3 _ hx with h4 | ⟨_, _, h4⟩
        · omega
        · simp only [Int.toNat_natCast] at h4
          have hv := ih (3 - lv i).toNat (by omega) i hi hni (by omega)
          rcases hS i hv _ hx with h5 | h5
          · omega
          · simpa using h5
theorem Gd.cnts (g : Gd cs rs L lv) (f : Fin cs rs L lv' c vis) : cntsOk cs c = true := by
  refine (cntsOk_iff f.len).2 fun j hj => cntOk_iff.2 ⟨?_, g.E j hj⟩
  have hdead : ∀ j, j < cs.length → j ∉ vis → kidsN cs j = [] := by
    intro j hj hv
    by_cases hn : (cAt cs j).n = 0
    · exact (g.E j hj hn).2
    · have hle : lv j ≤ 3 := by
        rcases g.K j hj hn with ⟨h1, _⟩ | ⟨_, h2, _⟩ <;> omega
      exact absurd (g.cover (vis := vis) (fun r hr => (f.R r hr).imp_right fun h => h.2.1) (fun j hj x hx => (f.S j hj x hx).imp_right And.right) (3 - lv j).toNat j hj hn (by omega)) hv
  rw [f.C j hj, g.N j hj, (List.Perm.append_left rs (flat_all f.nd (fun j hj => (f.V j hj).1) hdead)).count_eq]
end
end Go.Proofs.Ytboccoihmginiaa

namespace Go.Proofs.Ytboccoihmginiaa
open Go.RowKit Go.Sol
set_option linter.unusedVariables false
set_option linter.unusedSimpArgs false
abbrev lvF (t : List Int) (j : Nat) : Int := t.getD j 0
theorem getD_set_ne {l : List Int} {i j : Nat} {v : Int} (h : i ≠ j) : (l.set i v).getD j 0 = l.getD j 0 := by simp [List.getD_eq_getElem?_getD, List.getElem?_set_ne h]
theorem getD_set_eq {l : List Int} {i : Nat} {v : Int} (h : i < l.length) : (l.set i v).getD i 0 = v := by simp [List.getD_eq_getElem?_getD, h]
/-- steps of both of the reference's walks, side by side -/
structure Steps (cs : List PC) (lv : Int) (ks s t s' t' : List Int) (vis : List Nat) : Prop where
  nd : vis.Nodup
  a : ∀ j ∈ vis, j < cs.length ∧ t.getD j 0 = 0 ∧ t'.getD j 0 ≠ 0 ∧ (j : Int) ∈ ks ++ vis.flatMap (kidsN cs)
  b : ∀ j, j ∉ vis → t'.getD j 0 = t.getD j 0
  c : ∀ j, j < cs.length → s'.getD j 0 = s.getD j 0 + ((ks ++ vis.flatMap (kidsN cs)).count (j : Int) : Nat)
  d : ∀ j ∈ vis, Right cs (lvF t') j
  e : ∀ k ∈ ks, k = -1 ∨ (0 ≤ k ∧ k < cs.length ∧ t'.getD k.toNat 0 = lv)
  ls : s'.length = s.length
  lt : t'.length = t.length
structure Rel (cs : List PC) (s t : List Int) : Prop where
  hs : s.length = cs.length
  ht : t.length = cs.length
  r : ∀ j, j < cs.length → 0 ≤ s.getD j 0 ∧ (s.getD j 0 = 0 ↔ t.getD j 0 = 0)
section
variable {cs : List PC} {lv : Int} {ks ks1 ks2 s t s1 t1 s2 t2 s' t' : List Int} {vis vis1 vis2 : List Nat}
theorem Right.mono {f g : Nat → Int} {j : Nat} (h : Right cs f j) (hj : g j = f j) (hg : ∀ i, f i ≠ 0 → g i = f i) : Right cs g j := by
  rcases h with ⟨h1, h2, h3⟩ | ⟨h1, h2, h3, h4, h5, h6⟩
  · exact .inl ⟨by rw [hj]; exact h1, h2, h3⟩
  · refine .inr ⟨by rw [hj]; exact h1, by rw [hj]; exact h2, h3, h4, h5, fun x hx => (h6 x hx).imp_right fun h => ⟨h.1, h.2.1, ?_⟩⟩
    rw [hj, hg _ (by have := h.2.2; omega)]; exact h.2.2
theorem Right.pos {f : Nat → Int} {j : Nat} (h : Right cs f j) : 1 ≤ f j ∧ f j ≤ 3 := by
  rcases h with ⟨h1, _⟩ | ⟨h1, h2, _⟩ <;> omega
theorem Right.kids {f : Nat → Int} {j : Nat} (h : Right cs f j) {x : Int} (hx : x ∈ kidsN cs j) : x = -1 ∨ (0 ≤ x ∧ x < cs.length ∧ f x.toNat = f j - 1 ∧ 1 ≤ f x.toNat) := by
  rcases h with ⟨h1, h2, h3⟩ | ⟨h1, h2, h3, h4, h5, h6⟩
  · unfold kidsN at hx; rw [h2] at hx; simp at hx
  · exact (h6 x hx).imp_right fun h => ⟨h.1, h.2.1, h.2.2, by have := h.2.2; omega⟩
theorem Steps.nil : Steps cs lv [] s t s t [] := ⟨List.nodup_nil, fun _ h => by simp at h, fun _ _ => rfl, fun _ _ => by simp, fun _ h => by simp at h, fun _ h => by simp at h, rfl, rfl⟩
theorem Steps.keep (h : Steps cs lv ks s t s' t' vis) {j : Nat} (hj : t.getD j 0 ≠ 0) : t'.getD j 0 = t.getD j 0 := h.b j fun hm => hj (h.a j hm).2.1
theorem count_flat2 (a b : List Int) (v w : List Nat) (f : Nat → List Int) (x : Int) : ((a ++ b) ++ (v ++ w).flatMap f).count x = (a ++ v.flatMap f).count x + (b ++ w.flatMap f).count x := by
  simp only [List.count_append, List.flatMap_append]; omega
theorem Steps.trans (hl : lv ≠ 0) (h1 : Steps cs lv ks1 s t s1 t1 vis1) (h2 : Steps cs lv ks2 s1 t1 s2 t2 vis2) : Steps cs lv (ks1 ++ ks2) s t s2 t2 (vis1 ++ vis2) := by
  have hk : ∀ i, lvF t1 i ≠ 0 → lvF t2 i = lvF t1 i := fun i hi => h2.keep hi
  refine ⟨?_, ?_, ?_, ?_, ?_, ?_, h2.ls.trans h1.ls, h2.lt.trans h1.lt⟩
  · refine List.nodup_append.2 ⟨h1.nd, h2.nd, fun a ha b hb e => ?_⟩
    subst e
    exact (h1.a a ha).2.2.1 (h2.a a hb).2.1
  · intro j hj
    rcases List.mem_append.1 hj with hj | hj
    · have := h1.a j hj
      refine ⟨this.1, this.2.1, by rw [h2.keep this.2.2.1]; exact this.2.2.1, ?_⟩
      have := this.2.2.2
      simp only [List.mem_append, List.flatMap_append] at this ⊢
      rcases this with h | h <;> simp [h]
    · have := h2.a j hj
      refine ⟨this.1, ?_, this.2.2.1, ?_⟩
      · rw [← h1.b j fun hm => (h1.a j hm).2.2.1 this.2.1]
        exact this.2.1
      · have := this.2.2.2
        simp only [List.mem_append, List.flatMap_append] at this ⊢
        rcases this with h | h <;> simp [h]
  · intro j hj
    rw [h2.b j fun h => hj (List.mem_append_right _ h), h1.b j fun h => hj (List.mem_append_left _ h)]
  · intro j hj
    rw [h2.c j hj, h1.c j hj, count_flat2]; omega
  · intro j hj
    rcases List.mem_append.1 hj with hj | hj
    · exact (h1.d j hj).mono (hk j (h1.a j hj).2.2.1) hk
    · exact h2.d j hj
  · intro k hk
    by_cases hk2 : k ∈ ks2
    · exact h2.e k hk2
    · have hk1 : k ∈ ks1 := (List.mem_append.1 hk).resolve_right hk2
      rcases h1.e k hk1 with h | ⟨h3, h4, h5⟩
      · exact .inl h
      · exact .inr ⟨h3, h4, by rw [h2.keep (by omega)]; exact h5⟩
theorem Steps.refs (hl : 1 ≤ lv) (h : Steps cs lv ks s t s' t' vis) {x : Int} (hx : x ∈ ks ++ vis.flatMap (kidsN cs)) : x = -1 ∨ (0 ≤ x ∧ x < cs.length ∧ 1 ≤ t'.getD x.toNat 0) := by
  rcases List.mem_append.1 hx with hx | hx
  · exact (h.e x hx).imp_right fun h => ⟨h.1, h.2.1, by omega⟩
  · obtain ⟨j, hj, hx⟩ := List.mem_flatMap.1 hx
    exact ((h.d j hj).kids hx).imp_right fun h => ⟨h.1, h.2.1, h.2.2.2⟩
theorem Steps.rel (hl : 1 ≤ lv) (h : Steps cs lv ks s t s' t' vis) (r : Rel cs s t) : Rel cs s' t' := by
  refine ⟨h.ls.trans r.hs, h.lt.trans r.ht, fun j hj => ?_⟩
  have hr := r.r j hj
  have hc := h.c j hj
  refine ⟨by omega, ?_⟩
  by_cases hv : j ∈ vis
  · have ha := h.a j hv
    have := List.count_pos_iff.2 ha.2.2.2
    constructor
    · intro h0; omega
    · intro h0; exact absurd h0 ha.2.2.1
  · rw [h.b j hv, ← hr.2]
    by_cases hm : (j : Int) ∈ ks ++ vis.flatMap (kidsN cs)
    · have := List.count_pos_iff.2 hm
      have h2 := h.refs hl hm
      have hb := h.b j hv
      rcases h2 with h2 | ⟨_, _, h2⟩
      · omega
      · simp only [Int.toNat_natCast] at h2
        have : ¬ t.getD j 0 = 0 := by omega
        have : ¬ s.getD j 0 = 0 := fun e => this (hr.2.1 e)
        constructor <;> intro h0 <;> omega
    · rw [List.count_eq_zero.2 hm] at hc
      rw [hc]; simp
/-- a cell come to for the first time -/
theorem Steps.first {k : Nat} (hl : 1 ≤ lv) (r : Rel cs s t) (hk : k < cs.length) (h0 : t.getD k 0 = 0) (h : Steps cs (lv - 1) (kidsN cs k) (s.set k (s.getD k 0 + 1)) (t.set k lv) s' t' vis)
    (hR : Right cs (lvF t') k) : Steps cs lv [(k : Int)] s t s' t' (k :: vis) := by
  have hks : k < s.length := by rw [r.hs]; exact hk
  have hkt : k < t.length := by rw [r.ht]; exact hk
  have hnv : k ∉ vis := fun hm => by
    have := (h.a k hm).2.1
    rw [getD_set_eq hkt] at this
    omega
  have htk : t'.getD k 0 = lv := by rw [h.b k hnv, getD_set_eq hkt]
  have hne : ∀ j ∈ vis, k ≠ j := fun j hj e => hnv (e ▸ hj)
  refine ⟨List.nodup_cons.2 ⟨hnv, h.nd⟩, ?_, ?_, ?_, ?_, ?_, h.ls.trans (by simp), h.lt.trans (by simp)⟩
  · intro j hj
    rcases List.mem_cons.1 hj with rfl | hj
    · exact ⟨hk, h0, by omega, by simp⟩
    · have := h.a j hj
      refine ⟨this.1, by rw [← getD_set_ne (v := lv) (hne j hj)]; exact this.2.1, this.2.2.1, ?_⟩
      rw [List.flatMap_cons]
      exact List.mem_append_right _ this.2.2.2
  · intro j hj
    rw [h.b j fun hm => hj (List.mem_cons_of_mem _ hm), getD_set_ne fun e => hj (by simp [e])]
  · intro j hj
    rw [h.c j hj, List.flatMap_cons, List.count_append (l₁ := [(k : Int)])]
    by_cases e : k = j
    · subst e
      rw [getD_set_eq hks, List.count_singleton_self]; omega
    · rw [getD_set_ne e]
      have : ([(k : Int)] : List Int).count (j : Int) = 0 := List.count_eq_zero.2 (by simp; omega)
      rw [this]; omega
  · intro j hj
    rcases List.mem_cons.1 hj with rfl | hj
    · exact hR
    · exact h.d j hj
  · intro x hx
    simp at hx
    subst hx
    exact .inr ⟨by omega, by omega, by simpa using htk⟩
/-- a cell come to again -/
theorem Steps.again {k : Nat} (r : Rel cs s t) (hk : k < cs.length) (h0 : t.getD k 0 = lv) : Steps cs lv [(k : Int)] s t (s.set k (s.getD k 0 + 1)) t [] := by
  have hks : k < s.length := by rw [r.hs]; exact hk
  refine ⟨List.nodup_nil, fun _ h => by simp at h, fun _ _ => rfl, fun j hj => ?_, fun _ h => by simp at h, fun x hx => ?_, by simp, rfl⟩
  · by_cases e : k = j
    · subst e
      rw [getD_set_eq hks]; simp
    · rw [getD_set_ne e]
      have : ([(k : Int)] : List Int).count (j : Int) = 0 := List.count_eq_zero.2 (by simp; omega)
      simp [this]
  · simp at hx
    subst hx
    exact .inr ⟨by omega, by omega, by simpa using h0⟩
theorem Rel.set {k : Nat} (r : Rel cs s t) (hk : k < cs.length) (hl : lv ≠ 0) : Rel cs (s.set k (s.getD k 0 + 1)) (t.set k lv) := by
  refine ⟨by simp [r.hs], by simp [r.ht], fun j hj => ?_⟩
  by_cases e : k = j
  · subst e
    have := (r.r k hk).1
    rw [getD_set_eq (by rw [r.hs]; exact hk), getD_set_eq (by rw [r.ht]; exact hk)]
    exact ⟨by omega, by constructor <;> intro h <;> omega⟩
  · rw [getD_set_ne e, getD_set_ne e]; exact r.r j hj
theorem kidsLock {l : Nat} (hl : 1 ≤ l) (ih : ∀ (k : Int) (s t : List Int), Rel cs s t → (deepP cs l k s).1 = true → LevOk cs l k t ∧ ((levP cs l k t).1 = true → ∃ vis, Steps cs (l : Int) [k] s t (deepP cs l k s).2 (levP cs l k t).2 vis)) :
    ∀ (ks s t : List Int), Rel cs s t → (kidsP (deepP cs l) ks s).1 = true → KidsOk (LevOk cs l) (levP cs l) ks t ∧ ((kidsP (levP cs l) ks t).1 = true → ∃ vis, Steps cs (l : Int) ks s t (kidsP (deepP cs l) ks s).2 (kidsP (levP cs l) ks t).2 vis)
  | [], s, t, r, hd => ⟨trivial, fun _ => ⟨[], Steps.nil⟩⟩
  | k :: ks, s, t, r, hd => by
    rw [kidsP] at hd
    split at hd
    · rename_i h1
      obtain ⟨ho, hs⟩ := ih k s t r h1
      refine ⟨⟨ho, fun h2 => ?_⟩, fun h2 => ?_⟩
      · obtain ⟨v, hv⟩ := hs h2
        exact (kidsLock hl ih ks _ _ (hv.rel (by omega) r) hd).1
      · rw [kidsP] at h2
        split at h2
        · rename_i h3
          obtain ⟨v, hv⟩ := hs h3
          obtain ⟨v2, hv2⟩ := (kidsLock hl ih ks _ _ (hv.rel (by omega) r) hd).2 h2
          refine ⟨v ++ v2, ?_⟩
          rw [kidsP, if_pos h1, kidsP, if_pos h3]
          exact hv.trans (by omega) hv2
        · cases h2
    · cases hd
theorem lock : ∀ (l : Nat) (h1 : 1 ≤ l) (h3 : l ≤ 3) (k : Int) (s t : List Int), Rel cs s t → (deepP cs l k s).1 = true → LevOk cs l k t ∧ ((levP cs l k t).1 = true → ∃ vis, Steps cs (l : Int) [k] s t (deepP cs l k s).2 (levP cs l k t).2 vis)
  | 0, h1, _, _, _, _, _, _ => by omega
  | l + 1, h1, h3, k, s, t, r, hd => by
    by_cases hk1 : k = -1
    · subst hk1
      refine ⟨.inl rfl, fun _ => ⟨[], ?_⟩⟩
      rw [deepP, if_pos rfl, levP, if_pos rfl]
      exact ⟨List.nodup_nil, fun _ h => by simp at h, fun _ _ => rfl, fun j _ => by
        have : ([-1] : List Int).count (j : Int) = 0 := List.count_eq_zero.2 (by simp)
        simp [this], fun _ h => by simp at h, fun x h => .inl (by simpa using h), rfl, rfl⟩
    rw [deepP, if_neg hk1] at hd ⊢
    split at hd
    · cases hd
    rename_i hr
    obtain ⟨i, rfl⟩ : ∃ i : Nat, k = (i : Int) := ⟨k.toNat, by omega⟩
    have hi : i < cs.length := by omega
    simp only [Int.toNat_natCast] at hd ⊢
    have hri := r.r i hi
    have hc : cellAt cs (i : Int) = cAt cs i := rfl
    rw [hc] at hd ⊢
    rw [if_neg hr]
    by_cases hs0 : s.getD i 0 = 0
    · have ht0 := hri.2.1 hs0
      rw [if_neg (by omega)] at hd ⊢
      have hset := r.set (lv := ((l + 1 : Nat) : Int)) hi (by omega)
      have hlev : levP cs (l + 1) (i : Int) t = kidsP (levP cs l) (cAt cs i).k (t.set i ((l + 1 : Nat) : Int)) := by
        rw [levP, if_neg hk1, if_neg (by simp only [Int.toNat_natCast]; omega), if_neg (by simp only [Int.toNat_natCast]; omega)]
        rfl
      rw [hlev]
      by_cases hl0 : l = 0
      · subst hl0
        rw [if_pos rfl] at hd ⊢
        have hd : (cAt cs i).k.length = 0 ∧ 1 ≤ (cAt cs i).l.size ∧ (cAt cs i).l.size ≤ 8 := of_decide_eq_true hd
        have hk0 : (cAt cs i).k = [] := List.length_eq_zero_iff.1 hd.1
        refine ⟨.inr ⟨by omega, by omega, fun _ => ⟨fun _ => by rw [hc]; exact hk0, by rw [hc, hk0]; trivial⟩⟩, fun _ => ⟨[i], ?_⟩⟩
        rw [hk0, kidsP]
        simp only
        refine Steps.first (lv := ((0 + 1 : Nat) : Int)) (by omega) r hi ht0 ?_ (.inl ⟨?_, hk0, hd.2⟩)
        · unfold kidsN
          rw [hk0]
          exact Steps.nil
        · simp only [lvF]
          rw [getD_set_eq (by rw [r.ht]; exact hi)]; rfl
      · rw [if_neg hl0] at hd ⊢
        simp only [Bool.and_eq_true, decide_eq_true_eq] at hd
        obtain ⟨hd, hany, h4, hl⟩ := hd
        obtain ⟨ho, hst⟩ := kidsLock (l := l) (by omega) (fun k s t r h => lock l (by omega) (by omega) k s t r h) _ _ _ hset hd
        refine ⟨.inr ⟨by omega, by omega, fun _ => ⟨fun h => absurd h hl0, ho⟩⟩, fun h2 => ?_⟩
        obtain ⟨v, hv⟩ := hst h2
        refine ⟨i :: v, ?_⟩
        refine Steps.first (lv := ((l + 1 : Nat) : Int)) (by omega) r hi ht0 ?_ ?_
        · rw [show ((l + 1 : Nat) : Int) - 1 = l by omega]; exact hv
        · have hkt : i < t.length := by rw [r.ht]; exact hi
          have hti := hv.keep (j := i) (by rw [getD_set_eq hkt]; omega)
          rw [getD_set_eq hkt] at hti
          refine .inr ⟨by simp only [lvF]; rw [hti]; omega, by simp only [lvF]; rw [hti]; omega, hl, h4, ?_, fun x hx => (hv.e x hx).imp_right fun h => ⟨h.1, h.2.1, ?_⟩⟩
          · obtain ⟨x, hx, h0⟩ := List.any_eq_true.1 hany
            exact ⟨x, hx, by simpa using h0⟩
          · simp only [lvF]; rw [h.2.2, hti]; omega
    · have ht0 : t.getD i 0 ≠ 0 := fun e => hs0 (hri.2.2 e)
      rw [if_pos (by omega)] at hd ⊢
      refine ⟨.inr ⟨by omega, by omega, fun h => absurd h ht0⟩, fun h2 => ?_⟩
      rw [levP, if_neg hk1] at h2 ⊢
      simp only [Int.toNat_natCast] at h2 ⊢
      by_cases he : t.getD i 0 = ((l + 1 : Nat) : Int)
      · rw [if_neg (fun h => h.2 he), if_pos he] at h2 ⊢
        exact ⟨[], Steps.again r hi he⟩
      · rw [if_pos ⟨ht0, he⟩] at h2
        cases h2
end
theorem Rel.zeros (cs : List PC) : Rel cs (zerosP cs) (zerosP cs) := by
  have : ∀ j, (zerosP cs).getD j 0 = 0 := by
    intro j
    unfold zerosP
    rw [List.getD_eq_getElem?_getD, List.getElem?_replicate]
    split <;> rfl
  exact ⟨by simp [zerosP], by simp [zerosP], fun j hj => by rw [this]; exact ⟨by omega, by simp⟩⟩
theorem rng_iff {cs : List PC} {rs : List Int} {L : Int} : rngB cs rs L = true ↔ (1 ≤ L ∧ L ≤ 3) ∧ cs.length ≤ 80 ∧ 1 ≤ rs.length ∧ rs.length ≤ 8 := by
  unfold rngB
  simp only [Bool.and_eq_true, decide_eq_true_eq]
/-- what goodS_ok asks -/
theorem hlevS {cs : List PC} {rs : List Int} {L : Int} (hr : rngB cs rs L = true) (hd : (deepR cs rs L).1 = true) : KidsOk (LevOk cs L.toNat) (levP cs L.toNat) rs (zerosP cs) :=
  (kidsLock (l := L.toNat) (by have := (rng_iff.1 hr).1; omega) (lock L.toNat (by have := (rng_iff.1 hr).1; omega) (by have := (rng_iff.1 hr).1; omega)) rs _ _ (Rel.zeros cs) hd).1
theorem finS {cs : List PC} {rs : List Int} {L : Int} (hr : rngB cs rs L = true) (hd : (deepR cs rs L).1 = true) (hl : (levR cs rs L).1 = true) : ∃ vis, Fin cs rs L (lvF (levR cs rs L).2) (deepR cs rs L).2 vis := by
  have hL := (rng_iff.1 hr).1
  obtain ⟨vis, h⟩ := (kidsLock (l := L.toNat) (by omega) (lock L.toNat (by omega) (by omega)) rs _ _ (Rel.zeros cs) hd).2 hl
  have h1 : ((L.toNat : Nat) : Int) = L := by omega
  rw [h1] at h
  have hz : ∀ j, (zerosP cs).getD j 0 = 0 := by
    intro j
    unfold zerosP
    rw [List.getD_eq_getElem?_getD, List.getElem?_replicate]
    split <;> rfl
  have hin : ∀ i, (levR cs rs L).2.getD i 0 ≠ 0 → i ∈ vis := by
    intro i hi
    by_cases hm : i ∈ vis
    · exact hm
    · exact absurd (by rw [levR, h.b i hm, hz]) hi
  refine ⟨vis, h.ls.trans (by simp [zerosP]), h.nd, fun j hj => ⟨(h.a j hj).1, h.d j hj⟩, fun r hr => (h.e r hr).imp_right fun h2 => ⟨h2.1, hin _ (by rw [levR, h2.2.2]; omega), h2.2.2⟩, fun j hj x hx => ((h.d j hj).kids hx).imp_right fun h2 => ⟨h2.1, hin _ (by have := h2.2.2.2; simp only [lvF] at this; simp only [levR]; omega)⟩, fun j hj => ?_⟩
  have := h.c j hj
  rw [hz] at this
  rw [deepR, this]; omega
section
variable {cs : List PC} {rs : List Int} {L : Int} {lv : Nat → Int}
/-- a reference to a level -/
def RefTo (cs : List PC) (lv : Nat → Int) (l : Int) (k : Int) : Prop := k = -1 ∨ (0 ≤ k ∧ k < cs.length ∧ (cAt cs k.toNat).n ≠ 0 ∧ lv k.toNat = l)
theorem Gd.refR (g : Gd cs rs L lv) : ∀ r ∈ rs, RefTo cs lv L r := fun r hr => (g.R r hr).imp_right fun h => ⟨h.1, h.2.1, g.live (by omega) (List.mem_append_left _ (by rw [Int.toNat_of_nonneg h.1]; exact hr)), h.2.2⟩
theorem Gd.refK (g : Gd cs rs L lv) {j : Nat} (hj : j < cs.length) (hn : (cAt cs j).n ≠ 0) : ∀ x ∈ kidsN cs j, RefTo cs lv (lv j - 1) x := fun x hx =>
  ((g.K j hj hn).kids hx).imp_right fun h => ⟨h.1, h.2.1, g.liveK hx h.1 h.2.1, h.2.2.1⟩
theorem kids_true {f : Int → List Int → Bool × List Int} {I : List Int → Prop} {q : Int → Prop} (h : ∀ k s, q k → I s → (f k s).1 = true ∧ I (f k s).2) : ∀ (ks s : List Int), (∀ k ∈ ks, q k) → I s → (kidsP f ks s).1 = true ∧ I (kidsP f ks s).2
  | [], s, _, hs => ⟨rfl, hs⟩
  | k :: ks, s, hq, hs => by
    have h1 := h k s (hq k (List.mem_cons_self)) hs
    rw [kidsP, if_pos h1.1]
    exact kids_true h ks _ (fun x hx => hq x (List.mem_cons_of_mem _ hx)) h1.2
theorem deep_true (g : Gd cs rs L lv) : ∀ (l : Nat) (k : Int) (s : List Int), RefTo cs lv (l : Int) k → (∀ j, 0 ≤ s.getD j 0) → (deepP cs l k s).1 = true ∧ ∀ j, 0 ≤ (deepP cs l k s).2.getD j 0
  | 0, k, s, _, hs => ⟨rfl, hs⟩
  | l + 1, k, s, hk, hs => by
    rw [deepP]
    rcases hk with rfl | ⟨h0, h1, h2, h3⟩
    · rw [if_pos rfl]; exact ⟨rfl, hs⟩
    have hset : ∀ j, 0 ≤ (s.set k.toNat (s.getD k.toNat 0 + 1)).getD j 0 := by
      intro j
      by_cases e : k.toNat = j
      · subst e
        by_cases hl : k.toNat < s.length
        · rw [getD_set_eq hl]; have := hs k.toNat; omega
        · rw [List.set_eq_of_length_le (by omega)]; exact hs _
      · rw [getD_set_ne e]; exact hs j
    rw [if_neg (by omega), if_neg (by omega)]
    split
    · exact ⟨rfl, hset⟩
    have hc : cellAt cs k = cAt cs k.toNat := rfl
    have hkk := g.refK (j := k.toNat) (by omega) h2
    rcases g.K k.toNat (by omega) h2 with ⟨r1, r2, r3⟩ | ⟨r1, r2, r3, r4, r5, r6⟩
    · rw [if_pos (by omega)]
      exact ⟨decide_eq_true (by rw [hc, r2]; exact ⟨rfl, r3⟩), hset⟩
    · rw [if_neg (by omega)]
      have := kids_true (f := deepP cs l) (I := fun s => ∀ j, 0 ≤ s.getD j 0) (q := RefTo cs lv (l : Int)) (fun k s hk hs => deep_true g l k s hk hs) (cellAt cs k).k _ (fun x hx => by have := hkk x hx; rwa [h3, show ((l + 1 : Nat) : Int) - 1 = l by omega] at this) hset
      refine ⟨?_, this.2⟩
      simp only [Bool.and_eq_true, decide_eq_true_eq]
      refine ⟨this.1, ?_, by rw [hc]; exact ⟨r4, r3⟩⟩
      obtain ⟨x, hx, hx0⟩ := r5
      exact List.any_eq_true.2 ⟨x, hx, by simpa using hx0⟩
theorem lev_true (g : Gd cs rs L lv) : ∀ (l : Nat) (k : Int) (t : List Int), RefTo cs lv (l : Int) k → (∀ j, t.getD j 0 = 0 ∨ t.getD j 0 = lv j) → (levP cs l k t).1 = true ∧ ∀ j, (levP cs l k t).2.getD j 0 = 0 ∨ (levP cs l k t).2.getD j 0 = lv j
  | 0, k, t, _, ht => ⟨rfl, ht⟩
  | l + 1, k, t, hk, ht => by
    rw [levP]
    rcases hk with rfl | ⟨h0, h1, h2, h3⟩
    · rw [if_pos rfl]; exact ⟨rfl, ht⟩
    rw [if_neg (by omega)]
    have htk := ht k.toNat
    rw [if_neg (by omega)]
    split
    · exact ⟨rfl, ht⟩
    have hset : ∀ j, (t.set k.toNat ((l + 1 : Nat) : Int)).getD j 0 = 0 ∨ (t.set k.toNat ((l + 1 : Nat) : Int)).getD j 0 = lv j := by
      intro j
      by_cases e : k.toNat = j
      · subst e
        by_cases hl : k.toNat < t.length
        · rw [getD_set_eq hl]; exact .inr h3.symm
        · rw [List.set_eq_of_length_le (by omega)]; exact ht _
      · rw [getD_set_ne e]; exact ht j
    have hc : cellAt cs k = cAt cs k.toNat := rfl
    have hkk := g.refK (j := k.toNat) (by omega) h2
    exact kids_true (f := levP cs l) (I := fun t => ∀ j, t.getD j 0 = 0 ∨ t.getD j 0 = lv j) (q := RefTo cs lv (l : Int)) (fun k s hk hs => lev_true g l k s hk hs) (cellAt cs k).k _ (fun x hx => by have := hkk x hx; rwa [h3, show ((l + 1 : Nat) : Int) - 1 = l by omega] at this) hset
theorem zerosP_getD (cs : List PC) (j : Nat) : (zerosP cs).getD j 0 = 0 := by
  unfold zerosP
  rw [List.getD_eq_getElem?_getD, List.getElem?_replicate]
  split <;> rfl
theorem goodS_iff : goodS cs rs L = true ↔ rngB cs rs L = true ∧ ∃ lv, Gd cs rs L lv := by
  unfold goodS
  simp only [Bool.and_eq_true]
  constructor
  · rintro ⟨hr, hd, hl, hc⟩
    obtain ⟨vis, f⟩ := finS hr hd hl
    exact ⟨hr, _, f.good hc⟩
  · rintro ⟨hr, lv, g⟩
    have hL := (rng_iff.1 hr).1
    have e : ((L.toNat : Nat) : Int) = L := by omega
    have hq : ∀ k ∈ rs, RefTo cs lv ((L.toNat : Nat) : Int) k := by rw [e]; exact g.refR
    have hd := (kids_true (fun k s hk hs => deep_true g L.toNat k s hk hs) rs (zerosP cs) hq fun j => by rw [zerosP_getD]; omega).1
    have hl := (kids_true (fun k s hk hs => lev_true g L.toNat k s hk hs) rs (zerosP cs) hq fun j => .inl (zerosP_getD cs j)).1
    obtain ⟨vis, f⟩ := finS hr hd hl
    exact ⟨hr, hd, hl, g.cnts f⟩
end
end Go.Proofs.Ytboccoihmginiaa

namespace Go.Proofs.Ytboccoihmginiaa
open Go.RowKit Go.Sol
set_option linter.unusedVariables false
set_option linter.unusedSimpArgs false
theorem gcP_iff {cs : List PC} {j : Nat} {own : Int} : gcP cs.length (cAt cs j) own = true ↔
    (own = 1 ∧ (cAt cs j).k = [] ∧ 1 ≤ (cAt cs j).l.size ∧ (cAt cs j).l.size ≤ 8) ∨ (own ≠ 1 ∧ (cAt cs j).l = ⟨#[]⟩ ∧ (cAt cs j).k.length = 4 ∧ (∃ x ∈ (cAt cs j).k, 0 ≤ x) ∧ ∀ x ∈ (cAt cs j).k, -1 ≤ x ∧ x < cs.length) := by
  unfold gcP
  split
  · rename_i h
    simp only [Bool.and_eq_true, decide_eq_true_eq, List.length_eq_zero_iff]
    constructor
    · intro h2; exact .inl ⟨h, h2.2, h2.1⟩
    · rintro (h2 | h2)
      · exact ⟨h2.2.2, h2.2.1⟩
      · exact absurd h h2.1
  · rename_i h
    simp only [Bool.and_eq_true, decide_eq_true_eq, List.all_eq_true, isNum]
    constructor
    · rintro ⟨h1, h2, h3, h4⟩
      refine .inr ⟨h, h1, h2, ?_, fun x hx => by have := h3 x hx; omega⟩
      have hne : (cAt cs j).k ≠ [] := fun e => by rw [e] at h2; simp at h2
      have := (not_congr (maxI_lt hne)).1 (by omega)
      simp only [Classical.not_forall] at this
      obtain ⟨x, hx, h5⟩ := this
      exact ⟨x, hx, by omega⟩
    · rintro (h2 | ⟨_, h1, h2, ⟨x, hx, h5⟩, h3⟩)
      · exact absurd h2.1 h
      · refine ⟨h1, h2, fun x hx => by have := h3 x hx; omega, ?_⟩
        have hne : (cAt cs j).k ≠ [] := fun e => by rw [e] at h2; simp at h2
        have := (not_congr (maxI_lt hne)).2 (fun h => by have := h x hx; omega)
        omega
def kidsI (cs : List PC) (x : Int) : List Int := kidsN cs x.toNat
/-- what the program's check keeps, ρ: the references told -/
structure JI (cs : List PC) (s : RS) (ρ : List Int) : Prop where
  lc : s.c.length = cs.length
  ll : s.l.length = cs.length
  nd : s.ln.Nodup
  ln : ∀ x ∈ s.ln, 0 ≤ x ∧ x < cs.length ∧ 1 ≤ s.l.getD x.toNat 0 ∧ s.l.getD x.toNat 0 ≤ 3 ∧ gcP cs.length (cAt cs x.toNat) (s.l.getD x.toNat 0) = true
  hl : ∀ j, s.l.getD j 0 ≠ 0 → (j : Int) ∈ s.ln
  ct : ∀ j, j < cs.length → s.c.getD j 0 = (ρ.count (j : Int) : Nat)
  rf : ∀ x ∈ ρ, x = -1 ∨ (0 ≤ x ∧ x < cs.length ∧ s.l.getD x.toNat 0 ≠ 0)
section
variable {cs : List PC} {s : RS} {ρ : List Int} {k own : Int}
theorem isNum_iff {n : Nat} {k : Int} : isNum n k = true ↔ -1 ≤ k ∧ k ≤ (n : Int) - 1 := by unfold isNum; simp
theorem JI.refer (h : JI cs s ρ) (ho : 1 ≤ own) (ho3 : own ≤ 3) (ht : (referP cs k own s).1 = true) : JI cs (referP cs k own s).2 (ρ ++ [k]) ∧ (k = -1 ∨ (0 ≤ k ∧ k < cs.length ∧ (referP cs k own s).2.l.getD k.toNat 0 = own)) := by
  have hkeep := (refer_keep (cs := cs) (s := s) (k := k) (own := own)).1
  unfold referP at ht hkeep ⊢
  split at ht
  · cases ht
  rename_i h1
  have hr := isNum_iff.1 (by simpa using h1 : isNum cs.length k = true)
  rw [if_neg h1] at hkeep
  rw [if_neg h1]
  split at ht
  · rename_i h2
    rw [if_pos h2]
    have hk : k = -1 := by omega
    subst hk
    refine ⟨⟨h.lc, h.ll, h.nd, h.ln, h.hl, fun j hj => ?_, fun x hx => ?_⟩, .inl rfl⟩
    · rw [List.count_append, List.count_eq_zero.2 (show (j : Int) ∉ ([-1] : List Int) by simp)]; exact h.ct j hj
    · rcases List.mem_append.1 hx with hx | hx
      · exact h.rf x hx
      · exact .inl (by simpa using hx)
  rename_i h2
  rw [if_neg h2] at hkeep
  rw [if_neg h2]
  obtain ⟨i, rfl⟩ : ∃ i : Nat, k = (i : Int) := ⟨k.toNat, by omega⟩
  have hi : i < cs.length := by omega
  simp only [Int.toNat_natCast] at ht hkeep ⊢
  have hil : i < s.l.length := by rw [h.ll]; exact hi
  have hct : ∀ j, j < cs.length → (s.c.set i (s.c.getD i 0 + 1)).getD j 0 = ((ρ ++ [(i : Int)]).count (j : Int) : Nat) := by
    intro j hj
    rw [List.count_append]
    by_cases e : i = j
    · subst e
      rw [getD_set_eq (by rw [h.lc]; exact hi), h.ct i hi, List.count_singleton_self]; omega
    · rw [getD_set_ne e, h.ct j hj, List.count_eq_zero.2 (show (j : Int) ∉ [(i : Int)] by simp; omega)]; rfl
  split at ht
  · rename_i h3
    rw [if_pos h3] at hkeep
    rw [if_pos h3]
    simp only at hkeep ⊢
    have hself : (s.l.set i own).getD i 0 = own := getD_set_eq hil
    have hnm : (i : Int) ∉ s.ln := fun hm => by have := (h.ln _ hm).2.2.1; simp only [Int.toNat_natCast] at this; omega
    refine ⟨⟨by simp [h.lc], by simp [h.ll], ?_, ?_, ?_, hct, ?_⟩, .inr ⟨by omega, by omega, hself⟩⟩
    · refine List.nodup_append.2 ⟨h.nd, by simp, fun a ha b hb e => ?_⟩
      simp at hb
      subst hb; subst e
      exact hnm ha
    · intro x hx
      simp only at hx ⊢
      rcases List.mem_append.1 hx with hx | hx
      · have := h.ln x hx
        rw [hkeep _ (by omega)]; exact this
      · simp at hx
        subst hx
        simp only [Int.toNat_natCast]
        rw [hself]
        exact ⟨by omega, by omega, ho, ho3, ht⟩
    · intro j hj
      simp only at hj ⊢
      by_cases e : i = j
      · subst e; simp
      · rw [getD_set_ne e] at hj
        exact List.mem_append_left _ (h.hl j hj)
    · intro x hx
      simp only
      rcases List.mem_append.1 hx with hx | hx
      · exact (h.rf x hx).imp_right fun h2 => ⟨h2.1, h2.2.1, by rw [hkeep _ h2.2.2]; exact h2.2.2⟩
      · simp at hx
        subst hx
        simp only [Int.toNat_natCast]
        exact .inr ⟨by omega, by omega, by rw [hself]; omega⟩
  · rename_i h3
    rw [if_neg h3] at hkeep
    rw [if_neg h3]
    simp only at hkeep ⊢
    have ht : s.l.getD i 0 = own := by simpa using ht
    refine ⟨⟨by simp [h.lc], h.ll, h.nd, h.ln, h.hl, hct, ?_⟩, .inr ⟨by omega, by omega, ht⟩⟩
    intro x hx
    simp only
    rcases List.mem_append.1 hx with hx | hx
    · exact h.rf x hx
    · simp at hx
      subst hx
      simp only [Int.toNat_natCast]
      exact .inr ⟨by omega, by omega, h3⟩
/-- what stays -/
structure Kept (s s' : RS) : Prop where
  l : ∀ i, s.l.getD i 0 ≠ 0 → s'.l.getD i 0 = s.l.getD i 0
  ln : ∃ t, s'.ln = s.ln ++ t
theorem Kept.refl (s : RS) : Kept s s := ⟨fun _ _ => rfl, [], by simp⟩
theorem Kept.trans {s1 s2 s3 : RS} (h : Kept s1 s2) (k : Kept s2 s3) : Kept s1 s3 := by
  refine ⟨fun i hi => ?_, ?_⟩
  · rw [k.l i (by rw [h.l i hi]; exact hi), h.l i hi]
  · obtain ⟨a, ha⟩ := h.ln
    obtain ⟨b, hb⟩ := k.ln
    exact ⟨a ++ b, by rw [hb, ha, List.append_assoc]⟩
theorem JI.refs : ∀ (ks : List Int) (s : RS) (ρ : List Int), JI cs s ρ → (ks ≠ [] → 1 ≤ own ∧ own ≤ 3) → (refsP cs own ks s).1 = true →
    JI cs (refsP cs own ks s).2 (ρ ++ ks) ∧ Kept s (refsP cs own ks s).2 ∧ ∀ k ∈ ks, k = -1 ∨ (0 ≤ k ∧ k < cs.length ∧ (refsP cs own ks s).2.l.getD k.toNat 0 = own)
  | [], s, ρ, h, ho, ht => ⟨by rw [refsP, List.append_nil]; exact h, Kept.refl _, fun _ h => by simp at h⟩
  | k :: ks, s, ρ, h, ho, ht => by
    have hown := ho (by simp)
    rw [refsP] at ht ⊢
    split at ht
    · rename_i h1
      obtain ⟨hJ, hk⟩ := h.refer hown.1 hown.2 h1
      have hkept : Kept s (referP cs k own s).2 := ⟨refer_keep.1, refer_keep.2⟩
      obtain ⟨hJ2, hK2, hks⟩ := JI.refs ks _ _ hJ (fun _ => hown) ht
      rw [if_pos h1]
      refine ⟨by rw [List.append_assoc] at hJ2; exact hJ2, hkept.trans hK2, fun x hx => ?_⟩
      rcases List.mem_cons.1 hx with rfl | hx
      · exact hk.imp_right fun h => ⟨h.1, h.2.1, by rw [hK2.l _ (by rw [h.2.2]; omega)]; exact h.2.2⟩
      · exact hks x hx
    · cases ht
theorem nodup_le {n : Nat} {l : List Nat} (nd : l.Nodup) (h : ∀ x ∈ l, x < n) : l.length ≤ n := by
  have hp : l.Perm ((List.range n).filter fun j => decide (j ∈ l)) := by
    refine (List.perm_ext_iff_of_nodup nd (List.nodup_range.filter _)).2 fun j => ?_
    simp only [List.mem_filter, List.mem_range, decide_eq_true_eq]
    exact ⟨fun hj => ⟨h j hj, hj⟩, And.right⟩
  rw [hp.length_eq]
  refine Nat.le_trans (List.length_filter_le _ _) (by simp)
theorem JI.nd2 (h : JI cs s ρ) : (s.ln.map Int.toNat).Nodup := by
  refine List.pairwise_map.2 (List.Pairwise.imp_of_mem ?_ h.nd)
  intro a b ha hb hne e
  have h1 := (h.ln a ha).1
  have h2 := (h.ln b hb).1
  exact hne (by omega)
theorem ln_le (h : JI cs s ρ) : s.ln.length ≤ cs.length := by
  have := nodup_le (n := cs.length) h.nd2 fun x hx => by
    obtain ⟨y, hy, rfl⟩ := List.mem_map.1 hx
    have := h.ln y hy
    omega
  simpa using this
/-- the line's cells up to i: their kids are told -/
def DoneTo (cs : List PC) (s : RS) (i : Nat) : Prop := ∀ m, m < i → ∀ x ∈ kidsI cs (s.ln.getD m 0), x = -1 ∨ (0 ≤ x ∧ x < cs.length ∧ s.l.getD x.toNat 0 = s.l.getD (s.ln.getD m 0).toNat 0 - 1)
theorem JI.line : ∀ (f i : Nat) (s : RS) (rs : List Int), JI cs s (rs ++ (s.ln.take i).flatMap (kidsI cs)) → i ≤ s.ln.length → cs.length < f + i → DoneTo cs s i → (lineP cs f i s).1 = true →
    JI cs (lineP cs f i s).2 (rs ++ (lineP cs f i s).2.ln.flatMap (kidsI cs)) ∧ Kept s (lineP cs f i s).2 ∧ DoneTo cs (lineP cs f i s).2 (lineP cs f i s).2.ln.length
  | 0, i, s, rs, h, hi, hf, hd, ht => by have := ln_le h; omega
  | f + 1, i, s, rs, h, hi, hf, hd, ht => by
    rw [lineP] at ht ⊢
    split at ht
    · rename_i h1
      rw [if_pos h1]
      simp only at ht ⊢
      have hx : s.ln.getD i 0 = s.ln[i] := by simp [h1]
      have hmem : s.ln.getD i 0 ∈ s.ln := by rw [hx]; exact List.getElem_mem h1
      have hln := h.ln _ hmem
      have hkid : (cellAt cs (s.ln.getD i 0)).k = kidsI cs (s.ln.getD i 0) := rfl
      rw [hkid] at ht ⊢
      split at ht
      · rename_i h2
        rw [if_pos h2]
        have hown : kidsI cs (s.ln.getD i 0) ≠ [] → 1 ≤ s.l.getD (s.ln.getD i 0).toNat 0 - 1 ∧ s.l.getD (s.ln.getD i 0).toNat 0 - 1 ≤ 3 := by
          intro hne
          rcases gcP_iff.1 hln.2.2.2.2 with ⟨_, hk, _⟩ | ⟨hn, _⟩
          · exact absurd hk hne
          · omega
        obtain ⟨hJ, hK, hks⟩ := h.refs _ _ _ hown h2
        obtain ⟨t, hlt⟩ := hK.ln
        have htake : (refsP cs (s.l.getD (s.ln.getD i 0).toNat 0 - 1) (kidsI cs (s.ln.getD i 0)) s).2.ln.take (i + 1) = s.ln.take i ++ [s.ln.getD i 0] := by
          rw [hlt, List.take_append_of_le_length (by omega), hx, List.take_succ_eq_append_getElem h1]
        have hgd : ∀ m, m ≤ i → (refsP cs (s.l.getD (s.ln.getD i 0).toNat 0 - 1) (kidsI cs (s.ln.getD i 0)) s).2.ln.getD m 0 = s.ln.getD m 0 := by
          intro m hm
          rw [hlt, List.getD_eq_getElem?_getD, List.getElem?_append_left (by omega), ← List.getD_eq_getElem?_getD]
        have hlm : ∀ m, m ≤ i → s.l.getD (s.ln.getD m 0).toNat 0 ≠ 0 := by
          intro m hm
          have : s.ln.getD m 0 ∈ s.ln := by
            rw [List.getD_eq_getElem?_getD, List.getElem?_eq_getElem (show m < s.ln.length by omega)]
            exact List.getElem_mem _
          have := (h.ln _ this).2.2.1
          omega
        generalize (refsP cs (s.l.getD (s.ln.getD i 0).toNat 0 - 1) (kidsI cs (s.ln.getD i 0)) s).2 = s2 at *
        have := JI.line f (i + 1) s2 rs (by rw [htake, List.flatMap_append, ← List.append_assoc]; simpa using hJ) (by rw [hlt]; simp; omega) (by omega) (by
          intro m hm x hxm
          rw [hgd m (by omega)] at hxm ⊢
          rw [hK.l _ (hlm m (by omega))]
          by_cases e : m = i
          · subst e
            exact hks x hxm
          · refine (hd m (by omega) x hxm).imp_right fun h3 => ⟨h3.1, h3.2.1, ?_⟩
            rw [hK.l _ ?_]
            · exact h3.2.2
            · have hm2 : s.ln.getD m 0 ∈ s.ln := by
                rw [List.getD_eq_getElem?_getD, List.getElem?_eq_getElem (show m < s.ln.length by omega)]
                exact List.getElem_mem _
              have hl1 := h.ln _ hm2
              rcases gcP_iff.1 hl1.2.2.2.2 with ⟨_, hk, _⟩ | ⟨hn, _⟩
              · unfold kidsI kidsN at hxm
                rw [hk] at hxm; simp at hxm
              · omega) ht
        exact ⟨this.1, hK.trans this.2.1, this.2.2⟩
      · cases ht
    · rename_i h1
      rw [if_neg h1]
      have : i = s.ln.length := by omega
      subst this
      rw [List.take_length] at h
      exact ⟨h, Kept.refl _, hd⟩
end
theorem JI.start (cs : List PC) : JI cs ⟨zerosP cs, zerosP cs, []⟩ [] :=
  ⟨by simp [zerosP], by simp [zerosP], List.nodup_nil, fun _ h => by simp at h, fun j hj => absurd (zerosP_getD cs j) hj, fun j hj => by simp only; rw [zerosP_getD]; rfl, fun _ h => by simp at h⟩
theorem flatMap_map' {α β γ : Type} (f : β → List γ) (g : α → β) (l : List α) : (l.map g).flatMap f = l.flatMap fun x => f (g x) := by
  induction l with
  | nil => rfl
  | cons a l ih => simp [ih]
theorem finI {cs : List PC} {rs : List Int} {L : Int} (hr : rngB cs rs L = true) (h1 : (rootsI cs rs L).1 = true) (h2 : (lineI cs rs L).1 = true) : ∃ vis, Fin cs rs L (lvF (lineI cs rs L).2.l) (lineI cs rs L).2.c vis := by
  have hL := (rng_iff.1 hr).1
  obtain ⟨hJ, hK, hroots⟩ := (JI.start cs).refs rs _ _ (fun _ => hL) h1
  rw [List.nil_append] at hJ
  unfold lineI rootsI at *
  generalize (refsP cs L rs ⟨zerosP cs, zerosP cs, []⟩).2 = s at *
  obtain ⟨hJ2, hK2, hd⟩ := JI.line (cs.length + 1) 0 s rs (by simpa using hJ) (Nat.zero_le _) (by omega) (fun m hm => by omega) h2
  generalize (lineP cs (cs.length + 1) 0 s).2 = s2 at *
  have hvis : ∀ j, s2.l.getD j 0 ≠ 0 → j ∈ s2.ln.map Int.toNat := fun j hj => List.mem_map.2 ⟨(j : Int), hJ2.hl j hj, by simp⟩
  have hkid : ∀ y ∈ s2.ln, ∀ x ∈ kidsN cs y.toNat, x = -1 ∨ (0 ≤ x ∧ x < cs.length ∧ s2.l.getD x.toNat 0 = s2.l.getD y.toNat 0 - 1 ∧ 1 ≤ s2.l.getD x.toNat 0) := by
    intro y hy x hx
    obtain ⟨m, hm, hym⟩ := List.getElem_of_mem hy
    have hg : s2.ln.getD m 0 = y := by simp [hm, hym]
    have hln := hJ2.ln y hy
    refine (hd m hm x (by rw [hg]; exact hx)).imp_right fun h => ⟨h.1, h.2.1, by rw [hg] at h; exact h.2.2, ?_⟩
    rw [hg] at h
    rcases gcP_iff.1 hln.2.2.2.2 with ⟨_, hk, _⟩ | ⟨hn, _⟩
    · unfold kidsN at hx; rw [hk] at hx; simp at hx
    · omega
  refine ⟨s2.ln.map Int.toNat, hJ2.lc, hJ2.nd2, ?_, fun r hr => (hroots r hr).imp_right fun h => ⟨h.1, hvis _ ?_, ?_⟩, ?_, fun j hj => ?_⟩
  · intro j hj
    obtain ⟨y, hy, rfl⟩ := List.mem_map.1 hj
    have hln := hJ2.ln y hy
    refine ⟨by omega, ?_⟩
    rcases gcP_iff.1 hln.2.2.2.2 with h | ⟨hn, h3, h4, h5, _⟩
    · exact .inl h
    · exact .inr ⟨by simp only [lvF]; omega, hln.2.2.2.1, h3, h4, h5, fun x hx => (hkid y hy x hx).imp_right fun h => ⟨h.1, h.2.1, h.2.2.1⟩⟩
  · rw [hK2.l _ (by rw [h.2.2]; omega), h.2.2]; omega
  · simp only [lvF]
    rw [hK2.l _ (by rw [h.2.2]; omega), h.2.2]
  · intro j hj x hx
    obtain ⟨y, hy, rfl⟩ := List.mem_map.1 hj
    exact (hkid y hy x hx).imp_right fun h => ⟨h.1, hvis _ (by omega)⟩
  · rw [hJ2.ct j hj, flatMap_map']
    rfl
section
variable {cs : List PC} {rs : List Int} {L : Int} {lv : Nat → Int}
theorem refer_true (g : Gd cs rs L lv) {k own : Int} {s : RS} (hk : RefTo cs lv own k) (ht : ∀ j, s.l.getD j 0 = 0 ∨ s.l.getD j 0 = lv j) : (referP cs k own s).1 = true ∧ ∀ j, (referP cs k own s).2.l.getD j 0 = 0 ∨ (referP cs k own s).2.l.getD j 0 = lv j := by
  unfold referP
  rcases hk with rfl | ⟨h0, h1, h2, h3⟩
  · rw [if_neg (by rw [isNum_iff.2 (by omega)]; simp), if_pos (by omega)]
    exact ⟨rfl, ht⟩
  rw [if_neg (by rw [isNum_iff.2 (by omega)]; simp), if_neg (by omega)]
  split
  · refine ⟨?_, fun j => ?_⟩
    · have hc : cellAt cs k = cAt cs k.toNat := rfl
      rw [hc, gcP_iff]
      rcases g.K k.toNat (by omega) h2 with ⟨r1, r2⟩ | ⟨r1, r2, r3, r4, r5, r6⟩
      · exact .inl ⟨by omega, r2⟩
      · exact .inr ⟨by omega, r3, r4, r5, fun x hx => by rcases r6 x hx with h | h <;> omega⟩
    · simp only
      by_cases e : k.toNat = j
      · subst e
        by_cases hl : k.toNat < s.l.length
        · rw [getD_set_eq hl]; exact .inr h3.symm
        · rw [List.set_eq_of_length_le (by omega)]; exact ht _
      · rw [getD_set_ne e]; exact ht j
  · rename_i h4
    have := (ht k.toNat).resolve_left h4
    exact ⟨decide_eq_true (by rw [this, h3]), ht⟩
end
end Go.Proofs.Ytboccoihmginiaa

namespace Go.Proofs.Ytboccoihmginiaa
open Go.RowKit Go.Sol
set_option linter.unusedVariables false
set_option linter.unusedSimpArgs false
structure LI (cs : List PC) (lv : Nat → Int) (s : RS) : Prop where
  ll : s.l.length = cs.length
  ln : ∀ x ∈ s.ln, 0 ≤ x ∧ x < cs.length ∧ (cAt cs x.toNat).n ≠ 0 ∧ s.l.getD x.toNat 0 = lv x.toNat
  cp : ∀ j, s.l.getD j 0 = 0 ∨ s.l.getD j 0 = lv j
section
variable {cs : List PC} {rs : List Int} {L : Int} {lv : Nat → Int}
theorem LI.refer (g : Gd cs rs L lv) {k own : Int} {s : RS} (hk : RefTo cs lv own k) (ho : own ≠ 0) (h : LI cs lv s) : (referP cs k own s).1 = true ∧ LI cs lv (referP cs k own s).2 := by
  obtain ⟨h1, h2⟩ := refer_true g hk h.cp
  refine ⟨h1, ?_, ?_, h2⟩
  · unfold referP
    split
    · exact h.ll
    split
    · exact h.ll
    split
    · simp [h.ll]
    · exact h.ll
  · unfold referP
    split
    · exact h.ln
    rename_i h3
    split
    · exact h.ln
    rename_i h4
    rcases hk with rfl | ⟨k0, k1, k2, k3⟩
    · omega
    split
    · rename_i h5
      intro x hx
      simp only at hx ⊢
      rcases List.mem_append.1 hx with hx | hx
      · have := h.ln x hx
        refine ⟨this.1, this.2.1, this.2.2.1, ?_⟩
        by_cases e : k.toNat = x.toNat
        · rw [e, getD_set_eq (by rw [h.ll]; omega), ← e, k3]
        · rw [getD_set_ne e]; exact this.2.2.2
      · simp at hx
        subst hx
        exact ⟨k0, k1, k2, by rw [getD_set_eq (by rw [h.ll]; omega), k3]⟩
    · exact h.ln
theorem LI.refs (g : Gd cs rs L lv) {own : Int} : ∀ (ks : List Int) (s : RS), (∀ k ∈ ks, RefTo cs lv own k) → (ks ≠ [] → own ≠ 0) → LI cs lv s → (refsP cs own ks s).1 = true ∧ LI cs lv (refsP cs own ks s).2
  | [], s, _, _, hs => ⟨rfl, hs⟩
  | k :: ks, s, hq, ho, hs => by
    have h1 := hs.refer g (hq k (List.mem_cons_self)) (ho (by simp))
    rw [refsP, if_pos h1.1]
    exact LI.refs g ks _ (fun x hx => hq x (List.mem_cons_of_mem _ hx)) (fun _ => ho (by simp)) h1.2
theorem LI.line (g : Gd cs rs L lv) : ∀ (f i : Nat) (s : RS), LI cs lv s → (lineP cs f i s).1 = true
  | 0, i, s, h => rfl
  | f + 1, i, s, h => by
    rw [lineP]
    split
    · rename_i h1
      have hx : s.ln.getD i 0 = s.ln[i] := by simp [h1]
      have hmem : s.ln.getD i 0 ∈ s.ln := by rw [hx]; exact List.getElem_mem h1
      obtain ⟨k0, k1, k2, k3⟩ := h.ln _ hmem
      have hkid : (cellAt cs (s.ln.getD i 0)).k = kidsN cs (s.ln.getD i 0).toNat := rfl
      simp only
      rw [hkid, k3]
      have hkk := g.refK (j := (s.ln.getD i 0).toNat) (by omega) k2
      have hr := g.K (s.ln.getD i 0).toNat (by omega) k2
      have := LI.refs g (kidsN cs (s.ln.getD i 0).toNat) s hkk (fun hne => by
        rcases hr with ⟨_, h2, _⟩ | ⟨h2, _⟩
        · exact absurd h2 hne
        · omega) h
      rw [if_pos this.1]
      exact LI.line g f (i + 1) _ this.2
    · rfl
theorem goodI_iff : goodI cs rs L = true ↔ rngB cs rs L = true ∧ ∃ lv, Gd cs rs L lv := by
  unfold goodI
  simp only [Bool.and_eq_true]
  constructor
  · rintro ⟨hr, hd, hl, hc⟩
    obtain ⟨vis, f⟩ := finI hr hd hl
    exact ⟨hr, _, f.good hc⟩
  · rintro ⟨hr, lv, g⟩
    have hL := (rng_iff.1 hr).1
    have h0 := LI.refs g rs ⟨zerosP cs, zerosP cs, []⟩ g.refR (fun _ => by omega) ⟨by simp [zerosP], fun _ h => by simp at h, fun j => .inl (zerosP_getD cs j)⟩
    have h1 := LI.line g (cs.length + 1) 0 _ h0.2
    obtain ⟨vis, f⟩ := finI hr h0.1 h1
    exact ⟨hr, h0.1, h1, g.cnts f⟩
theorem good_eq (cs : List PC) (rs : List Int) (L : Int) : goodI cs rs L = goodS cs rs L := by
  have h := goodI_iff (cs := cs) (rs := rs) (L := L)
  rw [← goodS_iff] at h
  cases h1 : goodI cs rs L <;> cases h2 : goodS cs rs L <;> simp_all
end
/-- goodS_ok with its condition met -/
theorem goodS_ok' {w : World} {a b : Sl} {gs : List GC} {rs : List Int} {L : Int} (h : RW w a b gs rs) (hkl : ∀ g ∈ gs, g.1.k.length ≤ 1048576) :
    Calls Try.prog 9 #[.agg #[Sl.v a, Sl.v b, .int .i64 L]] w fun e w' => e = .returned (.bool (goodI (pcs gs) rs L)) ∧ Below w.heap.size w w' := by
  rw [good_eq]
  exact goodS_ok h hkl fun hr hd => hlevS hr hd
end Go.Proofs.Ytboccoihmginiaa

namespace Go.Proofs.Ytboccoihmginiaa
open Go.RowKit Go.Sol
set_option linter.unusedVariables false
set_option linter.unusedSimpArgs false
def kidsF (cs : List PC) (F : List Nat) (j : Nat) : List Int := if j ∈ F then [] else kidsN cs j
def refsF (cs : List PC) (F : List Nat) : List Int := (List.range cs.length).flatMap (kidsF cs F)
theorem flat_out {α : Type} {f g : Nat → List α} {i : Nat} (h0 : g i = []) (hg : ∀ j, j ≠ i → g j = f j) : ∀ (l : List Nat), l.Nodup → i ∈ l → (l.flatMap f).Perm (f i ++ l.flatMap g)
  | [], _, h => by simp at h
  | a :: l, nd, h => by
    obtain ⟨hn, nd⟩ := List.nodup_cons.1 nd
    by_cases e : a = i
    · subst e
      rw [List.flatMap_cons, List.flatMap_cons, h0, List.nil_append]
      have : l.flatMap f = l.flatMap g := by
        have : ∀ (l : List Nat), a ∉ l → l.flatMap f = l.flatMap g := by
          intro l
          induction l with
          | nil => intro _; rfl
          | cons b l ih =>
            intro hb
            rw [List.flatMap_cons, List.flatMap_cons, ih fun h => hb (List.mem_cons_of_mem _ h), hg b fun e => hb (by simp [e])]
        exact this l hn
      rw [this]
    · have hl : i ∈ l := (List.mem_cons.1 h).resolve_left (fun e2 => e e2.symm)
      rw [List.flatMap_cons, List.flatMap_cons, hg a e]
      refine (List.Perm.append_left _ (flat_out h0 hg l nd hl)).trans ?_
      rw [← List.append_assoc, ← List.append_assoc]
      exact List.Perm.append_right _ List.perm_append_comm
section
variable {cs cs' : List PC} {F : List Nat} {i : Nat}
theorem refs_out (hi : i < cs.length) (hF : i ∉ F) : (refsF cs F).Perm (kidsN cs i ++ refsF cs (i :: F)) := by
  have := flat_out (f := kidsF cs F) (g := kidsF cs (i :: F)) (i := i) (by simp [kidsF]) (fun j hj => by simp [kidsF, hj]) (List.range cs.length) List.nodup_range (by simpa using hi)
  rwa [show kidsF cs F i = kidsN cs i by simp [kidsF, hF]] at this
theorem flat_congr {α : Type} {f g : Nat → List α} : ∀ {l : List Nat}, (∀ j ∈ l, f j = g j) → l.flatMap f = l.flatMap g
  | [], _ => rfl
  | a :: l, h => by rw [List.flatMap_cons, List.flatMap_cons, h a (List.mem_cons_self), flat_congr fun j hj => h j (List.mem_cons_of_mem _ hj)]
theorem refs_congr (hl : cs'.length = cs.length) (h : ∀ j, j < cs.length → j ∉ F → kidsN cs' j = kidsN cs j) : refsF cs' F = refsF cs F := by
  unfold refsF
  rw [hl]
  refine flat_congr fun j hj => ?_
  unfold kidsF
  split
  · rfl
  · rename_i hF
    exact h j (by simpa using hj) hF
theorem mem_refs {x : Int} : x ∈ refsF cs F ↔ ∃ j, j < cs.length ∧ j ∉ F ∧ x ∈ kidsN cs j := by
  unfold refsF
  rw [List.mem_flatMap]
  constructor
  · rintro ⟨j, hj, hx⟩
    unfold kidsF at hx
    split at hx
    · simp at hx
    · exact ⟨j, by simpa using hj, by assumption, hx⟩
  · rintro ⟨j, hj, hF, hx⟩
    exact ⟨j, by simpa using hj, by unfold kidsF; rwa [if_neg hF]⟩
theorem cAt_set_eq {c : PC} (hi : i < cs.length) : cAt (cs.set i c) i = c := by simp [cAt, hi]
theorem cAt_set_ne {c : PC} {j : Nat} (h : i ≠ j) : cAt (cs.set i c) j = cAt cs j := by simp [cAt, List.getD_eq_getElem?_getD, List.getElem?_set_ne h]
theorem cAt_app_lt {c : PC} {j : Nat} (h : j < cs.length) : cAt (cs ++ [c]) j = cAt cs j := by simp [cAt, List.getD_eq_getElem?_getD, List.getElem?_append_left h]
theorem cAt_app_eq {c : PC} : cAt (cs ++ [c]) cs.length = c := by simp [cAt, List.getD_eq_getElem?_getD]
end
def Rt (cs : List PC) (lv : Nat → Int) (j : Nat) : Prop :=
  (lv j = 1 ∧ (cAt cs j).k = []) ∨ (2 ≤ lv j ∧ lv j ≤ 3 ∧ (cAt cs j).l = ⟨#[]⟩ ∧ (cAt cs j).k.length = 4 ∧ ∀ x ∈ (cAt cs j).k, x = -1 ∨ (0 ≤ x ∧ x < cs.length ∧ lv x.toNat = lv j - 1))
structure Wi (cs : List PC) (lv : Nat → Int) (F : List Nat) (ext : List Int) : Prop where
  N : ∀ j, j < cs.length → (cAt cs j).n = ((ext ++ refsF cs F).count (j : Int) : Nat)
  K : ∀ j, j < cs.length → (cAt cs j).n ≠ 0 → j ∉ F → Rt cs lv j
  E : ∀ j, j < cs.length → (cAt cs j).n = 0 → (cAt cs j).l = ⟨#[]⟩ ∧ (cAt cs j).k = []
  X : ∀ x ∈ ext, x = -1 ∨ (0 ≤ x ∧ x < cs.length)
  F : ∀ j ∈ F, j < cs.length ∧ (j : Int) ∈ ext ∧ (cAt cs j).n = 1
section
variable {cs cs' : List PC} {lv lv' : Nat → Int} {F : List Nat} {ext ext' : List Int} {i j k : Nat}
theorem Rt.kids (h : Rt cs lv j) {x : Int} (hx : x ∈ kidsN cs j) : x = -1 ∨ (0 ≤ x ∧ x < cs.length ∧ lv x.toNat = lv j - 1 ∧ 2 ≤ lv j) := by
  rcases h with ⟨h1, h2⟩ | ⟨h1, h2, h3, h4, h5⟩
  · unfold kidsN at hx; rw [h2] at hx; simp at hx
  · exact (h5 x hx).imp_right fun h => ⟨h.1, h.2.1, h.2.2, h1⟩
theorem Wi.perm (h : Wi cs lv F ext) (p : ext.Perm ext') : Wi cs lv F ext' :=
  ⟨fun j hj => by rw [h.N j hj, (List.Perm.append_right _ p).count_eq], h.K, h.E, fun x hx => h.X x (p.mem_iff.2 hx), fun j hj => ⟨(h.F j hj).1, p.mem_iff.1 (h.F j hj).2.1, (h.F j hj).2.2⟩⟩
theorem Wi.live (h : Wi cs lv F ext) (hj : j < cs.length) (hm : (j : Int) ∈ ext ++ refsF cs F) : 1 ≤ (cAt cs j).n := by
  rw [h.N j hj]
  have := List.count_pos_iff.2 hm
  omega
theorem Wi.pos (h : Wi cs lv F ext) (hj : j < cs.length) : 0 ≤ (cAt cs j).n := by rw [h.N j hj]; omega
/-- no cell outside F refers to one of F -/
theorem Wi.noF (h : Wi cs lv F ext) (hj : j ∈ F) : (j : Int) ∉ refsF cs F := by
  intro hm
  obtain ⟨h1, h2, h3⟩ := h.F j hj
  have := h.N j h1
  rw [h3, List.count_append] at this
  have a := List.count_pos_iff.2 hm
  have b := List.count_pos_iff.2 h2
  omega
/-- the cells that are there, outside F -/
def Sv (cs : List PC) (F : List Nat) (x : Int) : Prop := x = -1 ∨ (0 ≤ x ∧ x < cs.length ∧ (cAt cs x.toNat).n ≠ 0 ∧ x.toNat ∉ F)
theorem Wi.closed (h : Wi cs lv F ext) {x : Int} (hs : Sv cs F x) (h0 : 0 ≤ x) : ∀ y ∈ kidsN cs x.toNat, Sv cs F y := by
  intro y hy
  rcases hs with hs | ⟨h1, h2, h3, h4⟩
  · omega
  · have hj : x.toNat < cs.length := by omega
    rcases (h.K _ hj h3 h4).kids hy with h5 | ⟨h5, h6, _⟩
    · exact .inl h5
    · have hm : y ∈ refsF cs F := mem_refs.2 ⟨_, hj, h4, hy⟩
      have hyn : ((y.toNat : Nat) : Int) = y := by omega
      refine .inr ⟨h5, h6, ?_, fun hF => ?_⟩
      · have := h.live (j := y.toNat) (by omega) (List.mem_append_right _ (by rw [hyn]; exact hm))
        omega
      · exact h.noF hF (by rw [hyn]; exact hm)
theorem Wi.ext_sv (h : Wi cs lv F ext) {x : Int} (hx : x ∈ ext) (hF : x.toNat ∉ F) : Sv cs F x := by
  rcases h.X x hx with h1 | ⟨h1, h2⟩
  · exact .inl h1
  · have hyn : ((x.toNat : Nat) : Int) = x := by omega
    refine .inr ⟨h1, h2, ?_, hF⟩
    have := h.live (j := x.toNat) (by omega) (List.mem_append_left _ (by rw [hyn]; exact hx))
    omega
/-- leaves below cells whose contents stay -/
theorem leaf_same {S : Int → Prop} (hc : ∀ x, S x → 0 ≤ x → (cAt cs' x.toNat).l = (cAt cs x.toNat).l ∧ (cAt cs' x.toNat).k = (cAt cs x.toNat).k ∧ ∀ y ∈ kidsN cs x.toNat, S y) (hS : S (-1)) :
    ∀ (m a : Nat) (x : Int), S x → leafP cs' a m x = leafP cs a m x
  | 0, a, x, hx => by
    unfold leafP
    split
    · rfl
    · exact (hc x hx (by omega)).1
  | 1, a, x, hx => by
    unfold leafP
    split
    · rfl
    · exact (hc x hx (by omega)).1
  | m + 2, a, x, hx => by
    rw [leafP, leafP]
    split
    · rfl
    · obtain ⟨h1, h2, h3⟩ := hc x hx (by omega)
      have e : kidAt (cellAt cs' x) (dig a (m + 2)) = kidAt (cellAt cs x) (dig a (m + 2)) := by
        have e1 : cellAt cs' x = cAt cs' x.toNat := rfl
        have e2 : cellAt cs x = cAt cs x.toNat := rfl
        rw [e1, e2]
        unfold kidAt
        rw [h2]
      rw [e]
      refine leaf_same hc hS (m + 1) a _ ?_
      unfold kidAt
      rw [List.getD_eq_getElem?_getD]
      cases hk : (cellAt cs x).k[dig a (m + 2)]? with
      | none => exact hS
      | some y => exact h3 y (List.mem_of_getElem? hk)
theorem leaf_neg {a m : Nat} {x : Int} (h : x < 0) : leafP cs a m x = ⟨#[]⟩ := by
  cases m with
  | zero => unfold leafP; rw [if_pos h]
  | succ m => cases m <;> (unfold leafP; rw [if_pos h])
theorem bump_n {d : Int} (hi : i < cs.length) : (cAt (bump cs i d) j).n = (cAt cs j).n + if j = i then d else 0 := by
  unfold bump
  by_cases e : j = i
  · subst e; rw [cAt_set_eq hi, if_pos rfl]
  · rw [cAt_set_ne (Ne.symm e), if_neg e]; omega
theorem bump_lk {d : Int} : (cAt (bump cs i d) j).l = (cAt cs j).l ∧ (cAt (bump cs i d) j).k = (cAt cs j).k := by
  unfold bump
  by_cases e : i = j
  · subst e
    by_cases hi : i < cs.length
    · rw [cAt_set_eq hi]; exact ⟨rfl, rfl⟩
    · rw [List.set_eq_of_length_le (by omega)]; exact ⟨rfl, rfl⟩
  · rw [cAt_set_ne e]; exact ⟨rfl, rfl⟩
theorem incs_lk : ∀ (xs : List Int) (cs : List PC), (cAt (incs cs xs) j).l = (cAt cs j).l ∧ (cAt (incs cs xs) j).k = (cAt cs j).k
  | [], cs => ⟨rfl, rfl⟩
  | x :: xs, cs => by
    rw [incs]
    have h := incs_lk xs (if 0 ≤ x then bump cs x.toNat 1 else cs)
    split at h
    · rename_i h0
      rw [if_pos h0]
      exact ⟨h.1.trans bump_lk.1, h.2.trans bump_lk.2⟩
    · rename_i h0
      rw [if_neg h0]; exact h
theorem incs_n : ∀ (xs : List Int) (cs : List PC), j < cs.length → (∀ x ∈ xs, x < cs.length) → (cAt (incs cs xs) j).n = (cAt cs j).n + (xs.count (j : Int) : Nat)
  | [], cs, _, _ => by simp [incs]
  | x :: xs, cs, hj, hx => by
    rw [incs]
    have hx0 := hx x (List.mem_cons_self)
    split
    · rename_i h0
      rw [incs_n xs _ (by simpa using hj) (fun y hy => by simpa using hx y (List.mem_cons_of_mem _ hy)), bump_n (by omega), List.count_cons]
      by_cases e : j = x.toNat
      · rw [if_pos e, if_pos (by simp; omega)]; omega
      · rw [if_neg e, if_neg (by simp; omega)]; omega
    · rw [incs_n xs _ hj (fun y hy => hx y (List.mem_cons_of_mem _ hy)), List.count_cons, if_neg (by simp; omega)]; omega
end
end Go.Proofs.Ytboccoihmginiaa

namespace Go.Proofs.Ytboccoihmginiaa
open Go.RowKit Go.Sol
set_option linter.unusedVariables false
set_option linter.unusedSimpArgs false
section
variable {cs cs' : List PC} {lv lv' : Nat → Int} {F : List Nat} {ext ext' : List Int} {i j : Nat}
theorem free_le (cs : List PC) : freeIx cs ≤ cs.length := List.findIdx_le_length
theorem free_n (h : freeIx cs < cs.length) : (cAt cs (freeIx cs)).n = 0 := by
  have h2 : List.findIdx (fun (c : PC) => c.n == 0) cs < cs.length := h
  have := List.findIdx_getElem (xs := cs) (p := fun c => c.n == 0) (w := h2)
  unfold freeIx cAt
  rw [List.getD_eq_getElem?_getD, List.getElem?_eq_getElem h2]
  simpa using this
/-- a cell's contents fit its level -/
def FitC (cs : List PC) (lv : Nat → Int) (l : Int) (leaf : ByteArray) (kids : List Int) : Prop :=
  (l = 1 ∧ kids = []) ∨ (2 ≤ l ∧ l ≤ 3 ∧ leaf = ⟨#[]⟩ ∧ kids.length = 4 ∧ ∀ x ∈ kids, x = -1 ∨ (0 ≤ x ∧ x < cs.length ∧ (cAt cs x.toNat).n ≠ 0 ∧ lv x.toNat = l - 1))
def lvSet (lv : Nat → Int) (f : Nat) (l : Int) : Nat → Int := fun j => if j = f then l else lv j
theorem Rt.move (h : Rt cs lv j) (hk : cAt cs' j = cAt cs j) (hl : cs.length ≤ cs'.length) (hj : lv' j = lv j) (hx : ∀ x ∈ kidsN cs j, 0 ≤ x → lv' x.toNat = lv x.toNat) : Rt cs' lv' j := by
  unfold Rt
  rw [hk, hj]
  rcases h with h | ⟨h1, h2, h3, h4, h5⟩
  · exact .inl h
  · refine .inr ⟨h1, h2, h3, h4, fun x hx' => ?_⟩
    rcases h5 x hx' with h | ⟨h6, h7, h8⟩
    · exact .inl h
    · exact .inr ⟨h6, by omega, by rw [hx x hx' h6]; exact h8⟩
theorem Wi.create {l : Int} {leaf : ByteArray} {kids : List Int} (h : Wi cs lv F (kids ++ ext)) (hF : ∀ j ∈ F, (j : Int) ∈ ext) (hc : FitC cs lv l leaf kids) :
    Wi (createP cs ⟨1, leaf, kids⟩).1 (lvSet lv (freeIx cs) l) F ((freeIx cs : Int) :: ext) ∧ freeIx cs < (createP cs ⟨1, leaf, kids⟩).1.length ∧ freeIx cs ∉ F ∧
    cs.length ≤ (createP cs ⟨1, leaf, kids⟩).1.length ∧ (createP cs ⟨1, leaf, kids⟩).1.length ≤ cs.length + 1 ∧ cAt (createP cs ⟨1, leaf, kids⟩).1 (freeIx cs) = ⟨1, leaf, kids⟩ ∧
    (∀ j, j < cs.length → (cAt cs j).n ≠ 0 → j ≠ freeIx cs ∧ cAt (createP cs ⟨1, leaf, kids⟩).1 j = cAt cs j) ∧ (∀ j, j ≠ freeIx cs → cAt (createP cs ⟨1, leaf, kids⟩).1 j = cAt cs j) := by
  have hle := free_le cs
  have hfn := free_n (cs := cs)
  unfold createP
  simp only
  generalize freeIx cs = f at *
  have hlive : ∀ j, j < cs.length → (cAt cs j).n ≠ 0 → j ≠ f := by
    intro j hj hn e
    subst e
    exact hn (hfn hj)
  have hfF : f ∉ F := by
    intro hm
    obtain ⟨h1, _, h2⟩ := h.F f hm
    have := hfn h1
    omega
  have hkid : ∀ j, j < cs.length → (cAt cs j).n ≠ 0 → j ∉ F → ∀ x ∈ kidsN cs j, 0 ≤ x → x.toNat ≠ f := by
    intro j hj hn hjF x hx h0
    rcases h.closed (x := (j : Int)) (.inr ⟨by omega, by omega, by simpa using hn, by simpa using hjF⟩) (by omega) x (by simpa using hx) with h1 | ⟨h1, h2, h3, _⟩
    · omega
    · exact hlive _ (by omega) h3
  have hkid2 : ∀ x ∈ kids, 0 ≤ x → x.toNat ≠ f := by
    intro x hx h0
    rcases hc with ⟨_, rfl⟩ | ⟨_, _, _, _, hc⟩
    · simp at hx
    · rcases hc x hx with h1 | ⟨_, h1, h2, _⟩
      · omega
      · exact hlive _ (by omega) h2
  have hfk : (f : Int) ∉ kids := fun hm => hkid2 _ hm (by omega) (by simp)
  have hcnt0 : f < cs.length → (kids ++ ext ++ refsF cs F).count (f : Int) = 0 := by
    intro hf
    have := h.N f hf
    rw [hfn hf] at this
    omega
  have hcnt1 : (kids ++ ext ++ refsF cs F).count (f : Int) = 0 := by
    by_cases hf : f < cs.length
    · exact hcnt0 hf
    · refine List.count_eq_zero.2 fun hm => ?_
      rcases List.mem_append.1 hm with hm | hm
      · rcases h.X _ hm with h1 | h1 <;> omega
      · obtain ⟨j, hj, hjF, hx⟩ := mem_refs.1 hm
        have hn : (cAt cs j).n ≠ 0 := fun e => by
          have := (h.E j hj e).2
          unfold kidsN at hx; rw [this] at hx; simp at hx
        rcases (h.K j hj hn hjF).kids hx with h1 | h1 <;> omega
  have main : ∀ (cs1 : List PC), cs.length ≤ cs1.length → cs1.length ≤ cs.length + 1 → f < cs1.length → (∀ j, j < cs1.length → j ≠ f → j < cs.length) → cAt cs1 f = ⟨1, leaf, kids⟩ → (∀ j, j ≠ f → cAt cs1 j = cAt cs j) → (refsF cs1 F).Perm (kids ++ refsF cs F) →
      Wi cs1 (lvSet lv f l) F ((f : Int) :: ext) ∧ f < cs1.length ∧ f ∉ F ∧ cs.length ≤ cs1.length ∧ cs1.length ≤ cs.length + 1 ∧ cAt cs1 f = ⟨1, leaf, kids⟩ ∧ (∀ j, j < cs.length → (cAt cs j).n ≠ 0 → j ≠ f ∧ cAt cs1 j = cAt cs j) ∧ (∀ j, j ≠ f → cAt cs1 j = cAt cs j) := by
    intro cs1 l1 l2 l3 l4 hf hj hp
    have hcc : ∀ x : Int, (((f : Int) :: ext) ++ refsF cs1 F).count x = (if (f : Int) = x then 1 else 0) + (kids ++ ext ++ refsF cs F).count x := by
      intro x
      rw [List.count_append, hp.count_eq, List.count_cons]
      simp only [List.count_append]
      by_cases e : (f : Int) = x
      · rw [if_pos (by simp [e]), if_pos e]; omega
      · rw [if_neg (by simp [e]), if_neg e]; omega
    refine ⟨⟨?_, ?_, ?_, ?_, ?_⟩, l3, hfF, l1, l2, hf, fun j h1 h2 => ⟨hlive j h1 h2, hj j (hlive j h1 h2)⟩, hj⟩
    · intro j hjl
      rw [hcc]
      by_cases e : j = f
      · subst e
        rw [hf, if_pos rfl, hcnt1]; rfl
      · rw [hj j e, if_neg (by omega), h.N j (l4 j hjl e)]; omega
    · intro j hjl hn hjF
      by_cases e : j = f
      · subst e
        unfold Rt
        rw [hf]
        simp only [lvSet, if_pos]
        rcases hc with ⟨rfl, rfl⟩ | ⟨h1, h2, h3, h4, h5⟩
        · exact .inl ⟨rfl, rfl⟩
        · refine .inr ⟨h1, h2, h3, h4, fun x hx => ?_⟩
          rcases h5 x hx with h6 | ⟨h6, h7, h8, h9⟩
          · exact .inl h6
          · exact .inr ⟨h6, by omega, by rw [if_neg (hkid2 x hx h6)]; exact h9⟩
      · rw [hj j e] at hn
        have hjl := l4 j hjl e
        exact (h.K j hjl hn hjF).move (hj j e) l1 (by simp [lvSet, e]) fun x hx h0 => by simp [lvSet, hkid j hjl hn hjF x hx h0]
    · intro j hjl hn
      by_cases e : j = f
      · subst e
        rw [hf] at hn
        simp at hn
      · rw [hj j e] at hn ⊢
        exact h.E j (l4 j hjl e) hn
    · intro x hx
      rcases List.mem_cons.1 hx with rfl | hx
      · exact .inr ⟨by omega, by omega⟩
      · rcases h.X x (List.mem_append_right _ hx) with h1 | h1
        · exact .inl h1
        · exact .inr ⟨h1.1, by omega⟩
    · intro j hjF
      obtain ⟨h1, _, h2⟩ := h.F j hjF
      have e : j ≠ f := fun e => hfF (e ▸ hjF)
      exact ⟨by omega, List.mem_cons_of_mem _ (hF j hjF), by rw [hj j e]; exact h2⟩
  unfold putAt
  by_cases hf : f < cs.length
  · rw [if_pos hf]
    refine main _ (by simp) (by simp) (by simpa using hf) (fun j hj _ => by simpa using hj) (cAt_set_eq hf) (fun j hj => cAt_set_ne (Ne.symm hj)) ?_
    have p1 := refs_out (cs := cs.set f ⟨1, leaf, kids⟩) (F := F) (i := f) (by simpa using hf) hfF
    have p2 := refs_out (cs := cs) (F := F) (i := f) hf hfF
    have e1 : kidsN (cs.set f ⟨1, leaf, kids⟩) f = kids := by unfold kidsN; rw [cAt_set_eq hf]
    have e2 : kidsN cs f = [] := (h.E f hf (hfn hf)).2
    have e3 : refsF (cs.set f ⟨1, leaf, kids⟩) (f :: F) = refsF cs (f :: F) := refs_congr (by simp) fun j _ hjF => by
      unfold kidsN
      rw [cAt_set_ne fun e => hjF (by simp [e])]
    rw [e1, e3] at p1
    rw [e2] at p2
    exact p1.trans (List.Perm.append_left _ p2.symm)
  · rw [if_neg hf]
    obtain rfl : f = cs.length := by omega
    refine main _ (by simp) (by simp) (by simp) (fun j hj hne => by simp at hj; omega) cAt_app_eq (fun j hj => ?_) ?_
    · by_cases hjl : j < cs.length
      · exact cAt_app_lt hjl
      · simp only [cAt, List.getD_eq_getElem?_getD]
        rw [List.getElem?_eq_none (by simp; omega), List.getElem?_eq_none (by omega)]
    · unfold refsF
      rw [List.length_append, List.length_singleton, List.range_succ, List.flatMap_append]
      have e1 : (List.range cs.length).flatMap (kidsF (cs ++ [⟨1, leaf, kids⟩]) F) = (List.range cs.length).flatMap (kidsF cs F) := flat_congr fun j hj => by
        unfold kidsF kidsN
        rw [cAt_app_lt (by simpa using hj)]
      have e2 : [cs.length].flatMap (kidsF (cs ++ [⟨1, leaf, kids⟩]) F) = kids := by
        simp only [List.flatMap_cons, List.flatMap_nil, List.append_nil]
        unfold kidsF kidsN
        rw [if_neg hfF, cAt_app_eq]
      rw [e1, e2]
      exact List.perm_append_comm
/-- what comes of making a cell one's own -/
structure Owned (cs : List PC) (lv : Nat → Int) (F : List Nat) (k l : Int) (ext : List Int) (cs1 : List PC) (i : Nat) (lv1 : Nat → Int) : Prop where
  wi : Wi cs1 lv1 F ((i : Int) :: ext)
  lt : i < cs1.length
  nF : i ∉ F
  n1 : (cAt cs1 i).n = 1
  li : lv1 i = l
  le : cs.length ≤ cs1.length
  le1 : cs1.length ≤ cs.length + 1
  ct : if k < 0 then (cAt cs1 i).l = ⟨#[]⟩ ∧ kidsN cs1 i = kids0 l.toNat else (cAt cs1 i).l = (cAt cs k.toNat).l ∧ kidsN cs1 i = kidsN cs k.toNat
  lb : ∀ j, j < cs.length → (cAt cs j).n ≠ 0 → lv1 j = lv j ∧ (cAt cs1 j).n ≠ 0 ∧ (cAt cs1 j).l = (cAt cs j).l ∧ kidsN cs1 j = kidsN cs j
  fr : ∀ j, j < cs.length → (cAt cs j).n ≠ 0 → l < lv j → cAt cs1 j = cAt cs j
  dd : ∀ j, j ≠ i → (cAt cs1 j).n ≠ 0 → (cAt cs j).n ≠ 0
theorem own_spec {l : Nat} {k : Int} (h1 : 1 ≤ l) (h3 : l ≤ 3) (h : Wi cs lv F (k :: ext)) (hk : k = -1 ∨ (0 ≤ k ∧ k < cs.length ∧ lv k.toNat = l)) (hF : ∀ j ∈ F, (l : Int) < lv j) :
    ∃ lv1, Owned cs lv F k (l : Int) ext (ownP cs k l).1 (ownP cs k l).2 lv1 := by
  have hFe : ∀ j ∈ F, (j : Int) ∈ ext := by
    intro j hj
    rcases List.mem_cons.1 (h.F j hj).2.1 with e | e
    · exfalso
      have := hF j hj
      rcases hk with rfl | ⟨_, _, h4⟩
      · omega
      · rw [← e] at h4
        simp at h4
        omega
    · exact e
  unfold ownP
  rcases hk with rfl | ⟨h0, hkl, hlv⟩
  · rw [if_pos (by omega)]
    have hw : Wi cs lv F (kids0 l ++ ext) := by
      refine ⟨fun j hj => ?_, h.K, h.E, fun x hx => ?_, fun j hj => ⟨(h.F j hj).1, List.mem_append_right _ (hFe j hj), (h.F j hj).2.2⟩⟩
      · rw [h.N j hj]
        have e1 : (kids0 l).count (j : Int) = 0 := List.count_eq_zero.2 (by unfold kids0; split <;> simp)
        have e2 : ([-1] : List Int).count (j : Int) = 0 := List.count_eq_zero.2 (by simp)
        have e3 : ((-1 : Int) :: ext) = [-1] ++ ext := rfl
        rw [e3]
        simp only [List.count_append, e1, e2]
      · rcases List.mem_append.1 hx with hx | hx
        · unfold kids0 at hx
          split at hx <;> simp at hx
          exact .inl hx
        · exact h.X x (List.mem_cons_of_mem _ hx)
    have hfit : FitC cs lv l ⟨#[]⟩ (kids0 l) := by
      unfold FitC kids0
      by_cases e : l = 1
      · rw [if_pos e]; exact .inl ⟨by omega, rfl⟩
      · rw [if_neg e]; exact .inr ⟨by omega, by omega, rfl, rfl, fun x hx => .inl (by simpa using hx)⟩
    obtain ⟨w1, w2, w3, w4, w5, w6, w7, w8⟩ := hw.create hFe hfit
    refine ⟨_, w1, w2, w3, by show (cAt _ (freeIx cs)).n = 1; rw [w6], by simp [lvSet, createP], w4, w5, ?_, ?_, ?_, ?_⟩
    · rw [if_pos (by omega)]
      show (cAt _ (freeIx cs)).l = _ ∧ (cAt _ (freeIx cs)).k = _
      rw [w6]; exact ⟨rfl, by simp⟩
    · intro j hj hn
      obtain ⟨a, b⟩ := w7 j hj hn
      unfold kidsN
      rw [b]
      exact ⟨by simp [lvSet, a], hn, rfl, rfl⟩
    · intro j hj hn _
      exact (w7 j hj hn).2
    · intro j hj hn
      rw [w8 j hj] at hn; exact hn
  · rw [if_neg (by omega)]
    obtain ⟨i, rfl⟩ : ∃ i : Nat, k = (i : Int) := ⟨k.toNat, by omega⟩
    have hi : i < cs.length := by omega
    have hc : cellAt cs (i : Int) = cAt cs i := rfl
    rw [hc]
    simp only [Int.toNat_natCast] at hlv ⊢
    have hn1 := h.live hi (by simp)
    have hiF : i ∉ F := fun hm => by have := hF i hm; omega
    split
    · rename_i h2
      refine ⟨lv, h, hi, hiF, h2, hlv, Nat.le_refl _, by simp, by rw [if_neg (by omega)]; simp [kidsN], fun j hj hn => ⟨rfl, hn, rfl, rfl⟩, fun j hj hn _ => rfl, fun j _ hn => hn⟩
    · rename_i h2
      have hkx : ∀ x ∈ (cAt cs i).k, x = -1 ∨ (0 ≤ x ∧ x < cs.length ∧ (cAt cs x.toNat).n ≠ 0 ∧ lv x.toNat = l - 1) := by
        intro x hx
        rcases h.closed (x := (i : Int)) (.inr ⟨by omega, by omega, by simp only [Int.toNat_natCast]; omega, by simpa using hiF⟩) (by omega) x (by simpa [kidsN] using hx) with h4 | ⟨h4, h5, h6, _⟩
        · exact .inl h4
        · rcases (h.K i hi (by omega) hiF).kids (x := x) hx with h7 | ⟨_, _, h7, _⟩
          · exact .inl h7
          · exact .inr ⟨h4, h5, h6, by omega⟩
      have hb : ∀ j, j < cs.length → (cAt (incs (bump cs i (-1)) (cAt cs i).k) j).n = (cAt cs j).n + (if j = i then -1 else 0) + ((cAt cs i).k.count (j : Int) : Nat) := by
        intro j hj
        rw [incs_n _ _ (by simpa using hj) (fun x hx => by rcases hkx x hx with h4 | h4 <;> simp <;> omega), bump_n hi]
      have hlk : ∀ j, (cAt (incs (bump cs i (-1)) (cAt cs i).k) j).l = (cAt cs j).l ∧ (cAt (incs (bump cs i (-1)) (cAt cs i).k) j).k = (cAt cs j).k := fun j => ⟨(incs_lk _ _).1.trans bump_lk.1, (incs_lk _ _).2.trans bump_lk.2⟩
      have hlen : (incs (bump cs i (-1)) (cAt cs i).k).length = cs.length := by simp
      have hrefs : refsF (incs (bump cs i (-1)) (cAt cs i).k) F = refsF cs F := refs_congr hlen fun j _ _ => (hlk j).2
      have hlive : ∀ j, j < cs.length → ((cAt (incs (bump cs i (-1)) (cAt cs i).k) j).n ≠ 0 ↔ (cAt cs j).n ≠ 0) := by
        intro j hj
        rw [hb j hj]
        have hp := h.pos hj
        by_cases e : j = i
        · subst e; rw [if_pos rfl]; omega
        · rw [if_neg e]
          constructor
          · intro h4 h5
            have hm : (j : Int) ∈ (cAt cs i).k := List.count_pos_iff.1 (by omega)
            rcases hkx _ hm with h6 | ⟨_, _, h6, _⟩
            · omega
            · exact h6 (by simpa using h5)
          · intro h4; omega
      have hkc : ∀ j : Nat, (j : Int) ∈ (cAt cs i).k → lv j = l - 1 := by
        intro j hm
        rcases hkx _ hm with h6 | ⟨_, _, _, h6⟩
        · omega
        · simpa using h6
      have hw : Wi (incs (bump cs i (-1)) (cAt cs i).k) lv F ((cAt cs i).k ++ ext) := by
        refine ⟨fun j hj => ?_, fun j hj hn hjF => ?_, fun j hj hn => ?_, fun x hx => ?_, fun j hj => ?_⟩
        · rw [hlen] at hj
          rw [hb j hj, hrefs, h.N j hj]
          simp only [List.count_append, List.cons_append, List.count_cons]
          by_cases e : j = i
          · subst e; simp; omega
          · rw [if_neg e, if_neg (by simp; omega)]; omega
        · rw [hlen] at hj
          have := h.K j hj ((hlive j hj).1 hn) hjF
          unfold Rt at this ⊢
          rw [(hlk j).1, (hlk j).2, hlen]; exact this
        · rw [hlen] at hj
          rw [(hlk j).1, (hlk j).2]
          exact h.E j hj (Decidable.byContradiction fun h4 => ((hlive j hj).2 h4) hn)
        · rw [hlen]
          rcases List.mem_append.1 hx with hx | hx
          · exact (hkx x hx).imp_right fun h => ⟨h.1, h.2.1⟩
          · exact h.X x (List.mem_cons_of_mem _ hx)
        · obtain ⟨a, b, c⟩ := h.F j hj
          refine ⟨by omega, List.mem_append_right _ (hFe j hj), ?_⟩
          have hl := hF j hj
          rw [hb j a, if_neg (fun (e : j = i) => hiF (e ▸ hj)), List.count_eq_zero.2 (fun hm => by have := hkc j hm; omega)]
          omega
      have hfit : FitC (incs (bump cs i (-1)) (cAt cs i).k) lv l (cAt cs i).l (cAt cs i).k := by
        have hr := h.K i hi (by omega) hiF
        rcases hr with ⟨r1, r2⟩ | ⟨r1, r2, r3, r4, r5⟩
        · exact .inl ⟨by omega, r2⟩
        · refine .inr ⟨by omega, by omega, r3, r4, fun x hx => ?_⟩
          rcases hkx x hx with h4 | ⟨h4, h5, h6, h7⟩
          · exact .inl h4
          · exact .inr ⟨h4, by rw [hlen]; exact h5, (hlive _ (by omega)).2 h6, h7⟩
      obtain ⟨w1, w2, w3, w4, w5, w6, w7, w8⟩ := hw.create hFe hfit
      rw [hlen] at w4 w5
      generalize hcs0 : incs (bump cs i (-1)) (cAt cs i).k = cs0 at *
      refine ⟨_, w1, w2, w3, by show (cAt _ (freeIx cs0)).n = 1; rw [w6], by simp [lvSet, createP], w4, w5, ?_, ?_, ?_, ?_⟩
      · rw [if_neg (by omega)]
        show (cAt _ (freeIx cs0)).l = _ ∧ (cAt _ (freeIx cs0)).k = _
        rw [w6]; exact ⟨rfl, rfl⟩
      · intro j hj hn
        have hn2 := (hlive j hj).2 hn
        obtain ⟨a, b⟩ := w7 j (by omega) hn2
        unfold kidsN
        rw [b, (hlk j).1, (hlk j).2]
        exact ⟨by simp [lvSet, a], hn2, rfl, rfl⟩
      · intro j hj hn hl
        have hn2 := (hlive j hj).2 hn
        rw [(w7 j (by omega) hn2).2]
        have e1 := hb j hj
        have e : j ≠ i := fun e => by subst e; omega
        rw [if_neg e, List.count_eq_zero.2 (fun hm => by have := hkc j hm; omega)] at e1
        have e2 := hlk j
        cases hx : cAt cs0 j; cases hy : cAt cs j
        rw [hx, hy] at e1 e2
        simp at e1 e2
        simp [e1, e2]
      · intro j hj hn
        rw [w8 j hj] at hn
        by_cases hjl : j < cs.length
        · exact (hlive j hjl).1 hn
        · exfalso
          refine hn ?_
          simp only [cAt, List.getD_eq_getElem?_getD]
          rw [List.getElem?_eq_none (by omega)]; rfl
end
end Go.Proofs.Ytboccoihmginiaa

namespace Go.Proofs.Ytboccoihmginiaa
open Go.RowKit Go.Sol
set_option linter.unusedVariables false
set_option linter.unusedSimpArgs false
section
variable {cs cs' : List PC} {lv lv' : Nat → Int} {F : List Nat} {ext ext' : List Int} {i j : Nat}
theorem Wi.nExt (h : Wi cs lv F ((i : Int) :: ext)) (hi : i < cs.length) (hn : (cAt cs i).n = 1) : (i : Int) ∉ ext ∧ (i : Int) ∉ refsF cs F := by
  have := h.N i hi
  rw [hn, List.cons_append, List.count_cons_self, List.count_append] at this
  exact ⟨List.count_eq_zero.1 (by omega), List.count_eq_zero.1 (by omega)⟩
theorem Wi.freeze (h : Wi cs lv F ((i : Int) :: ext)) (hi : i < cs.length) (hF : i ∉ F) (hn : (cAt cs i).n = 1) : Wi cs lv (i :: F) ((i : Int) :: (kidsN cs i ++ ext)) := by
  have hp := refs_out hi hF
  refine ⟨fun j hj => ?_, fun j hj hn hjF => h.K j hj hn fun hm => hjF (List.mem_cons_of_mem _ hm), h.E, fun x hx => ?_, fun j hj => ?_⟩
  · rw [h.N j hj]
    simp only [List.count_append, List.cons_append, List.count_cons, hp.count_eq]
    omega
  · rcases List.mem_cons.1 hx with rfl | hx
    · exact h.X _ (List.mem_cons_self)
    · rcases List.mem_append.1 hx with hx | hx
      · exact ((h.K i hi (by omega) hF).kids hx).imp_right fun h => ⟨h.1, h.2.1⟩
      · exact h.X x (List.mem_cons_of_mem _ hx)
  · rcases List.mem_cons.1 hj with rfl | hj
    · exact ⟨hi, List.mem_cons_self, hn⟩
    · obtain ⟨a, b, c⟩ := h.F j hj
      refine ⟨a, ?_, c⟩
      rcases List.mem_cons.1 b with b | b
      · exact List.mem_cons.2 (.inl b)
      · exact List.mem_cons_of_mem _ (List.mem_append_right _ b)
theorem refs_set (c : PC) : refsF (cs.set i c) (i :: F) = refsF cs (i :: F) := refs_congr (by simp) fun j _ hj => by
  unfold kidsN
  rw [cAt_set_ne fun e => hj (by simp [e])]
theorem Wi.thaw {ks : List Int} {leaf : ByteArray} (h : Wi cs lv (i :: F) ((i : Int) :: (ks ++ ext))) (hF : i ∉ F) (hFe : ∀ j ∈ F, (j : Int) ∈ ext)
    (hfit : (lv i = 1 ∧ ks = []) ∨ (2 ≤ lv i ∧ lv i ≤ 3 ∧ leaf = ⟨#[]⟩ ∧ ks.length = 4 ∧ ∀ x ∈ ks, x = -1 ∨ lv x.toNat = lv i - 1)) : Wi (cs.set i ⟨1, leaf, ks⟩) lv F ((i : Int) :: ext) := by
  obtain ⟨hi, _, hn⟩ := h.F i (List.mem_cons_self)
  have hp := refs_out (cs := cs.set i ⟨1, leaf, ks⟩) (F := F) (i := i) (by simpa using hi) hF
  rw [refs_set] at hp
  have e1 : kidsN (cs.set i ⟨1, leaf, ks⟩) i = ks := by unfold kidsN; rw [cAt_set_eq hi]
  rw [e1] at hp
  have hnn : ∀ j, (cAt (cs.set i ⟨1, leaf, ks⟩) j).n = (cAt cs j).n := by
    intro j
    by_cases e : i = j
    · subst e; rw [cAt_set_eq hi, hn]
    · rw [cAt_set_ne e]
  refine ⟨fun j hj => ?_, fun j hj hn2 hjF => ?_, fun j hj h0 => ?_, fun x hx => ?_, fun j hj => ?_⟩
  · rw [hnn, h.N j (by simpa using hj)]
    simp only [List.count_append, List.cons_append, List.count_cons, hp.count_eq]
    omega
  · by_cases e : i = j
    · subst e
      unfold Rt
      rw [cAt_set_eq hi]
      rcases hfit with h1 | ⟨h1, h2, h3, h4, h5⟩
      · exact .inl h1
      · refine .inr ⟨h1, h2, h3, h4, fun x hx => ?_⟩
        rcases h5 x hx with h6 | h6
        · exact .inl h6
        · rcases h.X x (List.mem_cons_of_mem _ (List.mem_append_left _ hx)) with h7 | h7
          · exact .inl h7
          · exact .inr ⟨h7.1, by simpa using h7.2, h6⟩
    · rw [hnn] at hn2
      exact (h.K j (by simpa using hj) hn2 (by simp [Ne.symm e, hjF])).move (cAt_set_ne e) (by simp) rfl fun _ _ _ => rfl
  · rw [hnn] at h0
    have e : i ≠ j := fun e => by subst e; omega
    rw [cAt_set_ne e]
    exact h.E j (by simpa using hj) h0
  · rcases List.mem_cons.1 hx with rfl | hx
    · exact .inr ⟨by omega, by simpa using hi⟩
    · have := h.X x (List.mem_cons_of_mem _ (List.mem_append_right _ hx))
      simpa using this
  · obtain ⟨a, b, c⟩ := h.F j (List.mem_cons_of_mem _ hj)
    exact ⟨by simpa using a, List.mem_cons_of_mem _ (hFe j hj), by rw [hnn]; exact c⟩
theorem Wi.kill {ks : List Int} (h : Wi cs lv (i :: F) ((i : Int) :: (ks ++ ext))) (hF : i ∉ F) (hFe : ∀ j ∈ F, (j : Int) ∈ ext) (hks : ∀ x ∈ ks, x = -1) : Wi (cs.set i noP) lv F (-1 :: ext) := by
  obtain ⟨hi, _, hn⟩ := h.F i (List.mem_cons_self)
  have hp := refs_out (cs := cs.set i noP) (F := F) (i := i) (by simpa using hi) hF
  rw [refs_set] at hp
  have e1 : kidsN (cs.set i noP) i = [] := by unfold kidsN; rw [cAt_set_eq hi]; rfl
  rw [e1] at hp
  have h1 := h.N i hi
  rw [hn, List.cons_append, List.count_cons_self] at h1
  have hc0 : (ks ++ ext ++ refsF cs (i :: F)).count (i : Int) = 0 := by omega
  have hk0 : ∀ j : Nat, ks.count (j : Int) = 0 := fun j => List.count_eq_zero.2 fun hm => by have := hks _ hm; omega
  refine ⟨fun j hj => ?_, fun j hj hn2 hjF => ?_, fun j hj h0 => ?_, fun x hx => ?_, fun j hj => ?_⟩
  · by_cases e : i = j
    · subst e
      rw [cAt_set_eq hi]
      simp only [List.count_append, List.cons_append, List.count_cons, hp.count_eq, List.nil_append] at hc0 ⊢
      rw [if_neg (by simp)]
      show (0 : Int) = _
      omega
    · rw [cAt_set_ne e, h.N j (by simpa using hj)]
      simp only [List.count_append, List.cons_append, List.count_cons, hp.count_eq, List.nil_append, hk0]
      rw [if_neg (by simp; omega), if_neg (by simp)]
      omega
  · have e : i ≠ j := fun e => by
      subst e
      rw [cAt_set_eq hi] at hn2
      exact hn2 rfl
    rw [cAt_set_ne e] at hn2
    exact (h.K j (by simpa using hj) hn2 (by simp [Ne.symm e, hjF])).move (cAt_set_ne e) (by simp) rfl fun _ _ _ => rfl
  · by_cases e : i = j
    · subst e
      rw [cAt_set_eq hi]; exact ⟨rfl, rfl⟩
    · rw [cAt_set_ne e] at h0 ⊢
      exact h.E j (by simpa using hj) h0
  · rcases List.mem_cons.1 hx with rfl | hx
    · exact .inl rfl
    · have := h.X x (List.mem_cons_of_mem _ (List.mem_append_right _ hx))
      simpa using this
  · obtain ⟨a, b, c⟩ := h.F j (List.mem_cons_of_mem _ hj)
    have e : i ≠ j := fun e => hF (e ▸ hj)
    exact ⟨by simpa using a, List.mem_cons_of_mem _ (hFe j hj), by rw [cAt_set_ne e]; exact c⟩
/-- leaves that do not come to i stay when i turns -/
theorem Wi.leaf_i (h : Wi cs lv (i :: F) ext) (c : PC) {x : Int} (hx : Sv cs (i :: F) x) (m a : Nat) : leafP (cs.set i c) a m x = leafP cs a m x := by
  refine leaf_same (S := Sv cs (i :: F)) (fun y hy h0 => ?_) (.inl rfl) m a x hx
  have e : i ≠ y.toNat := by
    rcases hy with hy | ⟨_, _, _, hy⟩
    · omega
    · intro e; exact hy (by simp [e])
  rw [cAt_set_ne e]
  exact ⟨rfl, rfl, h.closed hy h0⟩
theorem refs_len (h : Wi cs lv F ext) : (refsF cs F).length ≤ 4 * cs.length := by
  have : ∀ (l : List Nat), (∀ j ∈ l, j < cs.length) → (l.flatMap (kidsF cs F)).length ≤ 4 * l.length := by
    intro l
    induction l with
    | nil => intro _; simp
    | cons a l ih =>
      intro hl
      have h1 := ih fun j hj => hl j (List.mem_cons_of_mem _ hj)
      have h2 : (kidsF cs F a).length ≤ 4 := by
        unfold kidsF
        split
        · simp
        · rename_i hF
          by_cases hn : (cAt cs a).n = 0
          · unfold kidsN; rw [(h.E a (hl a (List.mem_cons_self)) hn).2]; simp
          · rcases h.K a (hl a (List.mem_cons_self)) hn hF with ⟨_, h3⟩ | ⟨_, _, _, h3, _⟩
            · unfold kidsN; rw [h3]; simp
            · unfold kidsN; omega
      rw [List.flatMap_cons, List.length_append, List.length_cons]; omega
  have := this (List.range cs.length) (by simp)
  rwa [List.length_range] at this
theorem Wi.ownOk {k : Int} (h : Wi cs lv F (k :: ext)) (hl : cs.length < 1048576) (he : ext.length ≤ 1048576) (hkF : 0 ≤ k → k.toNat ∉ F) : OwnOk cs k := by
  have hX := h.X k (List.mem_cons_self)
  have hR : 0 ≤ k → Rt cs lv k.toNat := fun h0 => by
    have hk : k.toNat < cs.length := by omega
    have := h.live hk (by rw [Int.toNat_of_nonneg h0]; simp)
    exact h.K _ hk (by omega) (hkF h0)
  refine ⟨hl, by omega, fun h0 => ?_, fun h0 x hx => ?_, fun c hc => ?_⟩
  · have e : cellAt cs k = cAt cs k.toNat := rfl
    rw [e]
    rcases hR h0 with ⟨_, h3⟩ | ⟨_, _, _, h3, _⟩
    · rw [h3]; simp
    · omega
  · rcases (hR h0).kids (x := x) hx with h3 | h3 <;> omega
  · obtain ⟨j, hj, rfl⟩ := List.getElem_of_mem hc
    have h1 := h.N j hj
    have h2 := refs_len h
    have h3 := List.count_le_length (a := (j : Int)) (l := k :: ext ++ refsF cs F)
    rw [List.length_append, List.length_cons] at h3
    have e : cAt cs j = cs[j] := by simp [cAt, hj]
    rw [e] at h1
    omega
end
end Go.Proofs.Ytboccoihmginiaa

namespace Go.Proofs.Ytboccoihmginiaa
open Go.RowKit Go.Sol
set_option linter.unusedVariables false
set_option linter.unusedSimpArgs false
theorem nodup_sub {α : Type} [DecidableEq α] : ∀ {l m : List α}, l.Nodup → (∀ x ∈ l, x ∈ m) → l.length ≤ m.length
  | [], m, _, _ => Nat.zero_le _
  | a :: l, m, nd, h => by
    obtain ⟨hn, nd⟩ := List.nodup_cons.1 nd
    have ha := h a (List.mem_cons_self)
    have := nodup_sub (l := l) (m := m.erase a) nd fun x hx => (List.mem_erase_of_ne (fun (e : x = a) => hn (e ▸ hx))).2 (h x (List.mem_cons_of_mem _ hx))
    rw [List.length_erase_of_mem ha] at this
    have := List.length_pos_of_mem ha
    rw [List.length_cons]; omega
/-- the cells that are there -/
def usedL (cs : List PC) : List Nat := (List.range cs.length).filter fun j => decide ((cAt cs j).n ≠ 0)
theorem mem_usedL {cs : List PC} {j : Nat} : j ∈ usedL cs ↔ (cAt cs j).n ≠ 0 := by
  unfold usedL
  simp only [List.mem_filter, List.mem_range, decide_eq_true_eq]
  refine ⟨And.right, fun h => ⟨?_, h⟩⟩
  rcases Nat.lt_or_ge j cs.length with h1 | h1
  · exact h1
  · exfalso
    refine h ?_
    simp only [cAt, List.getD_eq_getElem?_getD]
    rw [List.getElem?_eq_none (by omega)]; rfl
theorem usedL_nd (cs : List PC) : (usedL cs).Nodup := List.nodup_range.filter _
theorem ers_perm {α : Type} : ∀ {l : List α} {i : Nat} (h : i < l.length), (l[i] :: l.eraseIdx i).Perm l
  | a :: l, 0, _ => List.Perm.refl _
  | a :: l, i + 1, h => by
    simp only [List.getElem_cons_succ, List.eraseIdx_cons_succ]
    exact (List.Perm.swap _ _ _).trans (List.Perm.cons _ (ers_perm (by simpa using h)))
open Classical in
/-- what a put leaves behind -/
structure PutR (a : Nat) (leaf : ByteArray) (l : Nat) (cs : List PC) (lv : Nat → Int) (F : List Nat) (k : Int) (ext : List Int) (cs' : List PC) (k' : Int) (lv' : Nat → Int) : Prop where
  wi : Wi cs' lv' F (k' :: ext)
  rk : k' = -1 ∨ (0 ≤ k' ∧ k' < cs'.length ∧ lv' k'.toNat = l)
  le : cs.length ≤ cs'.length
  le1 : cs'.length ≤ cs.length + l
  fr : ∀ j, j < cs.length → (cAt cs j).n ≠ 0 → (l : Int) < lv j → lv' j = lv j ∧ cAt cs' j = cAt cs j
  lb : ∀ j, j < cs.length → (cAt cs j).n ≠ 0 → lv' j = lv j
  keep : ∀ x ∈ ext, x.toNat ∉ F → ∀ m b, leafP cs' b m x = leafP cs b m x
  us : (usedL cs').length ≤ (usedL cs).length + l
  own : ∀ b, leafP cs' b l k' = if ∀ m, 2 ≤ m → m ≤ l → dig b m = dig a m then leaf else leafP cs b l k
section
variable {cs cs' : List PC} {lv lv' : Nat → Int} {F : List Nat} {ext ext' : List Int} {i j : Nat}
theorem Owned.down {l : Nat} {k : Int} {lv1 : Nat → Int} (h : Wi cs lv F (k :: ext)) (o : Owned cs lv F k ((l + 2 : Nat) : Int) ext cs' i lv1) (hkF : 0 ≤ k → k.toNat ∉ F) (b : Nat) :
    leafP cs b (l + 2) k = leafP cs' b (l + 1) (kidAt (cAt cs' i) (dig b (l + 2))) := by
  have hct := o.ct
  by_cases hk : k < 0
  · rw [if_pos hk] at hct
    rw [leaf_neg hk, leaf_neg]
    have e : (cAt cs' i).k = kids0 (l + 2) := by have := hct.2; rw [Int.toNat_natCast] at this; exact this
    have h4 := dig_lt b (l + 2)
    unfold kidAt
    rw [e]
    unfold kids0
    rw [if_neg (by omega)]
    have : dig b (l + 2) = 0 ∨ dig b (l + 2) = 1 ∨ dig b (l + 2) = 2 ∨ dig b (l + 2) = 3 := by omega
    rcases this with h | h | h | h <;> rw [h] <;> decide
  · rw [if_neg hk] at hct
    rw [leafP, if_neg hk]
    have e1 : cellAt cs k = cAt cs k.toNat := rfl
    have e2 : kidAt (cAt cs' i) (dig b (l + 2)) = kidAt (cAt cs k.toNat) (dig b (l + 2)) := by
      unfold kidAt
      rw [show (cAt cs' i).k = (cAt cs k.toNat).k from hct.2]
    rw [e1, e2]
    refine (leaf_same (S := Sv cs F) (fun y hy h0 => ?_) (.inl rfl) _ _ _ ?_).symm
    · rcases hy with hy | ⟨_, h2, h3, h4⟩
      · omega
      · obtain ⟨_, _, a, c⟩ := o.lb y.toNat (by omega) h3
        exact ⟨a, c, h.closed (.inr ⟨h0, h2, h3, h4⟩) h0⟩
    · have hs := h.ext_sv (x := k) (List.mem_cons_self) (hkF (by omega))
      unfold kidAt
      rw [List.getD_eq_getElem?_getD]
      cases hk2 : (cAt cs k.toNat).k[dig b (l + 2)]? with
      | none => exact .inl rfl
      | some y => exact h.closed hs (by omega) y (List.mem_of_getElem? hk2)
theorem Owned.keep {l : Int} {k : Int} {lv1 : Nat → Int} (h : Wi cs lv F (k :: ext)) (o : Owned cs lv F k l ext cs' i lv1) {x : Int} (hx : x ∈ ext) (hF : x.toNat ∉ F) (m b : Nat) : leafP cs' b m x = leafP cs b m x := by
  refine leaf_same (S := Sv cs F) (fun y hy h0 => ?_) (.inl rfl) _ _ _ (h.ext_sv (List.mem_cons_of_mem _ hx) hF)
  rcases hy with hy | ⟨_, h2, h3, h4⟩
  · omega
  · obtain ⟨_, _, a, c⟩ := o.lb y.toNat (by omega) h3
    exact ⟨a, c, h.closed (.inr ⟨h0, h2, h3, h4⟩) h0⟩
theorem ext_ne (h : Wi cs lv F ((i : Int) :: ext)) (hi : i < cs.length) (hn : (cAt cs i).n = 1) {x : Int} (hx : x ∈ ext) (hF : x.toNat ∉ F) : x = -1 ∨ x.toNat ∉ i :: F := by
  rcases h.X x (List.mem_cons_of_mem _ hx) with h0 | h0
  · exact .inl h0
  · refine .inr fun hm => ?_
    rcases List.mem_cons.1 hm with e | hm
    · refine (h.nExt hi hn).1 ?_
      rw [← e, Int.toNat_of_nonneg h0.1]; exact hx
    · exact hF hm
open Classical in
theorem put_spec (a : Nat) (leaf : ByteArray) : ∀ (l : Nat) (h1 : 1 ≤ l) (h3 : l ≤ 3) (cs : List PC) (lv : Nat → Int) (F : List Nat) (ext : List Int) (k : Int), Wi cs lv F (k :: ext) → (k = -1 ∨ (0 ≤ k ∧ k < cs.length ∧ lv k.toNat = l)) →
    (∀ j ∈ F, (l : Int) < lv j) → (leaf = ⟨#[]⟩ → leafP cs a l k ≠ ⟨#[]⟩) → cs.length + l ≤ 1048576 → ext.length + 5 * l ≤ 1048576 →
    PutOk a leaf l cs k ∧ ∃ lv', PutR a leaf l cs lv F k ext (putP a leaf l cs k).1 (putP a leaf l cs k).2 lv'
  | 0, h1, _, _, _, _, _, _, _, _, _, _, _, _ => by omega
  | l + 1, h1, h3, cs, lv, F, ext, k, h, hk, hFl, hleaf, hb1, hb2 => by
    have hkF : 0 ≤ k → k.toNat ∉ F := by
      intro h0 hm
      have := hFl _ hm
      rcases hk with rfl | ⟨_, _, hk⟩ <;> omega
    obtain ⟨lv1, o⟩ := own_spec (l := l + 1) (by omega) (by omega) h hk hFl
    have hoo := h.ownOk (by omega) (by omega) hkF
    have hk0 : leaf = ⟨#[]⟩ → 0 ≤ k := fun e => by
      have := hleaf e
      rcases hk with rfl | hk
      · exact absurd (leaf_neg (by omega)) this
      · exact hk.1
    rw [PutOk, putP]
    change (_ ∧ _ ∧ _ ∧ (_ → (cAt (ownP cs k (l + 1)).1 (ownP cs k (l + 1)).2).k.length = 4 ∧ _ ∧ _ ∧ _ ∧ _)) ∧ _
    have hown2 := o.wi
    generalize hcs1 : (ownP cs k (l + 1)).1 = cs1 at *
    generalize hi : (ownP cs k (l + 1)).2 = i at *
    have hfz := o.wi.freeze o.lt o.nF o.n1
    have hFe : ∀ j ∈ F, (j : Int) ∈ ext := by
      intro j hj
      rcases List.mem_cons.1 (o.wi.F j hj).2.1 with e | e
      · exact absurd hj (by have : j = i := by omega
                            rw [this]; exact o.nF)
      · exact e
    have hus1 : (usedL cs1).length ≤ (usedL cs).length + 1 := by
      have := nodup_sub (l := usedL cs1) (m := i :: usedL cs) (usedL_nd cs1) fun j hj => by
        by_cases e : j = i
        · simp [e]
        · exact List.mem_cons_of_mem _ (mem_usedL.2 (o.dd j e (mem_usedL.1 hj)))
      simpa using this
    have husS : ∀ (cs2 : List PC) (c : PC), (cAt cs2 i).n ≠ 0 → (usedL (cs2.set i c)).length ≤ (usedL cs2).length := by
      intro cs2 c h2
      refine nodup_sub (usedL_nd _) fun j hj => mem_usedL.2 ?_
      have := mem_usedL.1 hj
      by_cases e : i = j
      · rw [← e]; exact h2
      · rw [cAt_set_ne e] at this; exact this
    have hrt := o.wi.K i o.lt (by rw [o.n1]; omega) o.nF
    have hli := o.li
    by_cases hl0 : l = 0
    · subst hl0
      have hki : kidsN cs1 i = [] := by
        rcases hrt with ⟨_, r⟩ | ⟨r, _⟩
        · exact r
        · omega
      refine ⟨⟨hk0, hoo, o.lt, fun e => absurd rfl e⟩, ?_⟩
      rw [if_pos rfl]
      have e0 : cs1.getD i noP = cAt cs1 i := rfl
      rw [e0]
      have hset : setL (cAt cs1 i) leaf = ⟨1, leaf, kidsN cs1 i⟩ := by
        unfold setL kidsN; rw [o.n1]
      rw [hset, hki]
      rw [hki] at hfz
      have hkeep : ∀ (c : PC), ∀ x ∈ ext, x.toNat ∉ F → ∀ m b, leafP (cs1.set i c) b m x = leafP cs b m x := by
        intro c x hx hF m b
        rw [← o.keep h hx hF m b]
        rcases ext_ne o.wi o.lt o.n1 hx hF with rfl | hne
        · rw [leaf_neg (by omega), leaf_neg (by omega)]
        · exact hfz.leaf_i c (hfz.ext_sv (List.mem_cons_of_mem _ (List.mem_append_right _ hx)) hne) m b
      have hfr : ∀ (c : PC), ∀ j, j < cs.length → (cAt cs j).n ≠ 0 → (((0 + 1 : Nat) : Int)) < lv j → lv1 j = lv j ∧ cAt (cs1.set i c) j = cAt cs j := by
        intro c j hj hn hl
        have hlb := (o.lb j hj hn).1
        have e : i ≠ j := fun e => by subst e; omega
        rw [cAt_set_ne e]
        exact ⟨hlb, o.fr j hj hn hl⟩
      have hall : ∀ b, (∀ m, 2 ≤ m → m ≤ 0 + 1 → dig b m = dig a m) := fun b m h4 h5 => by omega
      have hget : (cs1.set i ⟨1, leaf, []⟩).getD i noP = ⟨1, leaf, []⟩ := cAt_set_eq o.lt
      unfold endP
      rw [hget]
      by_cases he : leaf = ⟨#[]⟩
      · rw [if_pos ⟨he, .inl rfl⟩, List.set_set]
        have hw := hfz.kill o.nF hFe (fun x hx => by simp at hx)
        refine ⟨lv1, hw, .inl rfl, by simpa using o.le, by simpa using o.le1, hfr _, fun j hj hn => (o.lb j hj hn).1, hkeep _, Nat.le_trans (husS cs1 _ (by rw [o.n1]; omega)) (by omega), fun b => ?_⟩
        rw [if_pos (hall b), leaf_neg (by omega), he]
      · rw [if_neg (fun hh => he hh.1)]
        have hw := hfz.thaw (leaf := leaf) o.nF hFe (.inl ⟨by rw [hli]; rfl, rfl⟩)
        refine ⟨lv1, hw, .inr ⟨by omega, by simpa using o.lt, by simpa using hli⟩, by simpa using o.le, by simpa using o.le1, hfr _, fun j hj hn => (o.lb j hj hn).1, hkeep _, Nat.le_trans (husS cs1 _ (by rw [o.n1]; omega)) (by omega), fun b => ?_⟩
        rw [if_pos (hall b)]
        unfold leafP
        rw [if_neg (by omega)]
        have e1 : cellAt (cs1.set i ⟨1, leaf, []⟩) (i : Int) = cAt (cs1.set i ⟨1, leaf, []⟩) i := rfl
        rw [e1, cAt_set_eq o.lt]
    · obtain ⟨q, rfl⟩ : ∃ q, l = q + 1 := ⟨l - 1, by omega⟩
      rw [if_neg hl0]
      obtain ⟨hl2, hl3, hle, h4, hkl⟩ : 2 ≤ lv1 i ∧ lv1 i ≤ 3 ∧ (cAt cs1 i).l = ⟨#[]⟩ ∧ (cAt cs1 i).k.length = 4 ∧ ∀ x ∈ (cAt cs1 i).k, x = -1 ∨ (0 ≤ x ∧ x < cs1.length ∧ lv1 x.toNat = lv1 i - 1) := by
        rcases hrt with ⟨r, _⟩ | r
        · omega
        · exact r
      have hd4 := dig_lt a (q + 2)
      have hdl : dig a (q + 2) < (cAt cs1 i).k.length := by omega
      have e0 : cs1.getD i noP = cAt cs1 i := rfl
      rw [e0]
      have hkd : kidAt (cAt cs1 i) (dig a (q + 2)) = (cAt cs1 i).k[dig a (q + 2)] := by
        unfold kidAt
        rw [List.getD_eq_getElem?_getD, List.getElem?_eq_getElem hdl]; rfl
      have hkm : kidAt (cAt cs1 i) (dig a (q + 2)) ∈ (cAt cs1 i).k := by rw [hkd]; exact List.getElem_mem hdl
      have p1 : (cAt cs1 i).k.Perm (kidAt (cAt cs1 i) (dig a (q + 2)) :: (cAt cs1 i).k.eraseIdx (dig a (q + 2))) := by
        rw [hkd]; exact (ers_perm hdl).symm
      have hw1 : Wi cs1 lv1 (i :: F) (kidAt (cAt cs1 i) (dig a (q + 2)) :: ((i : Int) :: ((cAt cs1 i).k.eraseIdx (dig a (q + 2)) ++ ext))) := by
        refine hfz.perm ?_
        refine List.Perm.trans ?_ (List.Perm.swap _ _ _)
        exact List.Perm.cons _ (List.Perm.append_right ext p1)
      have hdown := fun b => Owned.down h o hkF b
      have hel : ((cAt cs1 i).k.eraseIdx (dig a (q + 2))).length = 3 := by rw [List.length_eraseIdx_of_lt hdl]; omega
      obtain ⟨hpok, lv2, pr⟩ := put_spec a leaf (q + 1) (by omega) (by omega) cs1 lv1 (i :: F) ((i : Int) :: ((cAt cs1 i).k.eraseIdx (dig a (q + 2)) ++ ext)) (kidAt (cAt cs1 i) (dig a (q + 2))) hw1
        ((hkl _ hkm).imp_right fun h => ⟨h.1, h.2.1, by omega⟩)
        (fun j hj => by
          rcases List.mem_cons.1 hj with rfl | hj
          · omega
          · have hj2 := hFl j hj
            have hjw := h.F j hj
            have := (o.lb j hjw.1 (by rw [hjw.2.2]; omega)).1
            omega)
        (fun e => by rw [← hdown]; exact hleaf e) (by have := o.le1; omega) (by
          rw [List.length_cons, List.length_append, hel]; omega)
      obtain ⟨hf1, hf2⟩ := pr.fr i o.lt (by rw [o.n1]; omega) (by omega)
      have hq0 : q + 1 ≠ 0 := by omega
      simp only []
      generalize hcs2 : (putP a leaf (q + 1) cs1 (kidAt (cAt cs1 i) (dig a (q + 2)))).1 = cs2 at *
      generalize hk2 : (putP a leaf (q + 1) cs1 (kidAt (cAt cs1 i) (dig a (q + 2)))).2 = k2 at *
      have hi2 : i < cs2.length := Nat.lt_of_lt_of_le o.lt pr.le
      have e2 : cs2.getD i noP = cAt cs1 i := hf2
      refine ⟨⟨hk0, hoo, o.lt, fun _ => ⟨h4, hpok, hi2, by rw [e2]; exact h4, by rw [e2]; exact hle⟩⟩, ?_⟩
      rw [e2]
      have hset : setK (cAt cs1 i) (dig a (q + 2)) k2 = ⟨1, ⟨#[]⟩, (cAt cs1 i).k.set (dig a (q + 2)) k2⟩ := by
        unfold setK; rw [o.n1, hle]
      rw [hset]
      have hdl2 : dig a (q + 2) < ((cAt cs1 i).k.set (dig a (q + 2)) k2).length := by simpa using hdl
      have p2 : (k2 :: (cAt cs1 i).k.eraseIdx (dig a (q + 2))).Perm ((cAt cs1 i).k.set (dig a (q + 2)) k2) := by
        have := ers_perm hdl2
        rwa [List.getElem_set_self, List.eraseIdx_set_eq] at this
      have hw2 : Wi cs2 lv2 (i :: F) ((i : Int) :: ((cAt cs1 i).k.set (dig a (q + 2)) k2 ++ ext)) := by
        refine pr.wi.perm ?_
        refine (List.Perm.swap _ _ _).trans ?_
        exact List.Perm.cons _ (List.Perm.append_right ext p2)
      have hlen2 := o.le
      have hlen3 := o.le1
      have hlen4 := pr.le
      have hlen5 := pr.le1
      have hsv : ∀ x ∈ ext, x.toNat ∉ F → x = -1 ∨ x.toNat ∉ i :: F := fun x hx hF => ext_ne o.wi o.lt o.n1 hx hF
      have hkeep : ∀ (c : PC), ∀ x ∈ ext, x.toNat ∉ F → ∀ m b, leafP (cs2.set i c) b m x = leafP cs b m x := by
        intro c x hx hF m b
        rw [← o.keep h hx hF m b]
        rcases hsv x hx hF with rfl | hne
        · rw [leaf_neg (by omega), leaf_neg (by omega)]
        · rw [hw2.leaf_i c (hw2.ext_sv (List.mem_cons_of_mem _ (List.mem_append_right _ hx)) hne) m b]
          exact pr.keep x (List.mem_cons_of_mem _ (List.mem_append_right _ hx)) hne m b
      have hlbl : ∀ j, j < cs.length → (cAt cs j).n ≠ 0 → lv2 j = lv j := by
        intro j hj hn
        have h5 := o.lb j hj hn
        rw [pr.lb j (by omega) h5.2.1, h5.1]
      have hfr : ∀ (c : PC), ∀ j, j < cs.length → (cAt cs j).n ≠ 0 → (((q + 1 + 1 : Nat) : Int)) < lv j → lv2 j = lv j ∧ cAt (cs2.set i c) j = cAt cs j := by
        intro c j hj hn hl
        have h5 := o.lb j hj hn
        have e : i ≠ j := fun e => by subst e; omega
        have h6 := pr.fr j (by omega) h5.2.1 (by omega)
        rw [cAt_set_ne e, h6.2, o.fr j hj hn hl]
        exact ⟨hlbl j hj hn, rfl⟩
      -- the leaves below i then
      have hkids : ∀ b (c : PC), leafP (cs2.set i c) b (q + 1) (kidAt ⟨1, ⟨#[]⟩, (cAt cs1 i).k.set (dig a (q + 2)) k2⟩ (dig b (q + 2))) = if ∀ m, 2 ≤ m → m ≤ q + 2 → dig b m = dig a m then leaf else leafP cs b (q + 2) k := by
        intro b c
        rw [hdown b]
        have hb4 := dig_lt b (q + 2)
        by_cases hd : dig b (q + 2) = dig a (q + 2)
        · have e5 : kidAt ⟨1, ⟨#[]⟩, (cAt cs1 i).k.set (dig a (q + 2)) k2⟩ (dig b (q + 2)) = k2 := by
            unfold kidAt
            rw [hd, List.getD_eq_getElem?_getD, List.getElem?_set_self hdl]; rfl
          rw [e5]
          have e6 : leafP (cs2.set i c) b (q + 1) k2 = leafP cs2 b (q + 1) k2 := by
            rcases pr.rk with rfl | ⟨r1, r2, r3⟩
            · rw [leaf_neg (by omega), leaf_neg (by omega)]
            · refine hw2.leaf_i c (pr.wi.ext_sv (List.mem_cons_self) fun hm => ?_) _ _
              rcases List.mem_cons.1 hm with e | hm
              · rw [e, hf1] at r3; omega
              · have hj2 := hFl _ hm
                have hjw := h.F _ hm
                have := hlbl _ hjw.1 (by rw [hjw.2.2]; omega)
                omega
          rw [e6, pr.own b, hd]
          congr 1
          refine propext ⟨fun hh m m2 m3 => ?_, fun hh m m2 m3 => hh m m2 (by omega)⟩
          by_cases em : m = q + 2
          · rw [em]; exact hd
          · exact hh m m2 (by omega)
        · rw [if_neg fun hh => hd (hh (q + 2) (by omega) (by omega))]
          have hbl : dig b (q + 2) < (cAt cs1 i).k.length := by omega
          have e5 : kidAt ⟨1, ⟨#[]⟩, (cAt cs1 i).k.set (dig a (q + 2)) k2⟩ (dig b (q + 2)) = kidAt (cAt cs1 i) (dig b (q + 2)) := by
            unfold kidAt
            rw [List.getD_eq_getElem?_getD, List.getElem?_set_ne (Ne.symm hd), ← List.getD_eq_getElem?_getD]
          rw [e5]
          have hbm : kidAt (cAt cs1 i) (dig b (q + 2)) ∈ (cAt cs1 i).k.eraseIdx (dig a (q + 2)) := by
            have e7 : kidAt (cAt cs1 i) (dig b (q + 2)) = (cAt cs1 i).k[dig b (q + 2)] := by
              unfold kidAt
              rw [List.getD_eq_getElem?_getD, List.getElem?_eq_getElem hbl]; rfl
            rw [e7]
            exact List.mem_eraseIdx_iff_getElem.2 ⟨dig b (q + 2), hbl, hd, rfl⟩
          have hbk : kidAt (cAt cs1 i) (dig b (q + 2)) ∈ (cAt cs1 i).k := List.mem_of_mem_eraseIdx hbm
          have hbx : kidAt (cAt cs1 i) (dig b (q + 2)) ∈ (i : Int) :: ((cAt cs1 i).k.eraseIdx (dig a (q + 2)) ++ ext) := List.mem_cons_of_mem _ (List.mem_append_left _ hbm)
          rcases hkl _ hbk with e8 | ⟨b1, b2, b3⟩
          · rw [e8, leaf_neg (by omega), leaf_neg (by omega)]
          · have hbF : (kidAt (cAt cs1 i) (dig b (q + 2))).toNat ∉ i :: F := by
              intro hm
              rcases List.mem_cons.1 hm with e | hm
              · rw [e] at b3; omega
              · have hj2 := hFl _ hm
                have hjw := h.F _ hm
                have := (o.lb _ hjw.1 (by rw [hjw.2.2]; omega)).1
                omega
            rw [hw2.leaf_i c (pr.wi.ext_sv (List.mem_cons_of_mem _ hbx) hbF)]
            exact pr.keep _ hbx hbF _ _
      have hget : ∀ c : PC, (cs2.set i c).getD i noP = c := fun c => cAt_set_eq hi2
      unfold endP
      rw [hget]
      have hne : (cAt cs1 i).k.set (dig a (q + 2)) k2 ≠ [] := fun e => by
        have := congrArg List.length e
        rw [List.length_set, List.length_nil] at this; omega
      by_cases he : ∀ x ∈ (cAt cs1 i).k.set (dig a (q + 2)) k2, x < 0
      · rw [if_pos ⟨rfl, .inr ((maxI_lt hne).2 he)⟩, List.set_set]
        have hm1 : ∀ x ∈ (cAt cs1 i).k.set (dig a (q + 2)) k2, x = -1 := fun x hx => by
          have := he x hx
          rcases hw2.X x (List.mem_cons_of_mem _ (List.mem_append_left _ hx)) with h5 | h5 <;> omega
        have hw := hw2.kill o.nF hFe hm1
        refine ⟨lv2, hw, .inl rfl, by rw [List.length_set]; omega, by rw [List.length_set]; omega, hfr _, hlbl, hkeep _, Nat.le_trans (husS cs2 _ (by rw [hf2, o.n1]; omega)) (by have := pr.us; omega), fun b => ?_⟩
        rw [leaf_neg (by omega), ← hkids b noP, leaf_neg]
        have hb4 := dig_lt b (q + 2)
        have hbl : dig b (q + 2) < ((cAt cs1 i).k.set (dig a (q + 2)) k2).length := by rw [List.length_set]; omega
        have : kidAt ⟨1, ⟨#[]⟩, (cAt cs1 i).k.set (dig a (q + 2)) k2⟩ (dig b (q + 2)) = ((cAt cs1 i).k.set (dig a (q + 2)) k2)[dig b (q + 2)] := by
          unfold kidAt
          rw [List.getD_eq_getElem?_getD, List.getElem?_eq_getElem hbl]; rfl
        rw [this]
        exact he _ (List.getElem_mem hbl)
      · rw [if_neg (fun hh => by
          rcases hh.2 with h5 | h5
          · omega
          · exact he ((maxI_lt hne).1 h5))]
        have hw := hw2.thaw (leaf := ⟨#[]⟩) o.nF hFe (.inr ⟨by omega, by omega, rfl, by simpa using h4, fun x hx => by
          rcases List.mem_or_eq_of_mem_set hx with hx | rfl
          · refine (hkl x hx).imp_right fun h5 => ?_
            have hxl := o.wi.live (j := x.toNat) (by omega) (by
              refine List.mem_append_right _ (mem_refs.2 ⟨i, o.lt, o.nF, ?_⟩)
              rw [Int.toNat_of_nonneg h5.1]; exact hx)
            rw [pr.lb x.toNat (by omega) (by omega), hf1, h5.2.2]
          · refine pr.rk.imp_right fun h5 => ?_
            rw [h5.2.2, hf1, hli]; omega⟩)
        refine ⟨lv2, hw, .inr ⟨by omega, by rw [List.length_set]; omega, by simp only [Int.toNat_natCast]; rw [hf1, hli]⟩, by rw [List.length_set]; omega, by rw [List.length_set]; omega, hfr _, hlbl, hkeep _, Nat.le_trans (husS cs2 _ (by rw [hf2, o.n1]; omega)) (by have := pr.us; omega), fun b => ?_⟩
        rw [← hkids b ⟨1, ⟨#[]⟩, (cAt cs1 i).k.set (dig a (q + 2)) k2⟩, leafP, if_neg (by omega)]
        have e1 : ∀ c : PC, cellAt (cs2.set i c) (i : Int) = cAt (cs2.set i c) i := fun c => rfl
        rw [e1, cAt_set_eq hi2]
end
end Go.Proofs.Ytboccoihmginiaa

namespace Go.Proofs.Ytboccoihmginiaa
open Go.RowKit Go.Sol
set_option linter.unusedVariables false
set_option linter.unusedSimpArgs false
section
variable {cs : List PC} {rs : List Int} {L : Int} {lv : Nat → Int} {F : List Nat} {ext : List Int}
theorem Right.rt {j : Nat} (h : Right cs lv j) : Rt cs lv j := by
  rcases h with ⟨h1, h2, _⟩ | ⟨h1, h2, h3, h4, _, h5⟩
  · exact .inl ⟨h1, h2⟩
  · exact .inr ⟨h1, h2, h3, h4, h5⟩
theorem refsF_nil : refsF cs [] = cs.flatMap (·.k) := by
  rw [flat_range]
  unfold refsF
  refine flat_congr fun j _ => ?_
  simp [kidsF]
theorem Gd.wi (g : Gd cs rs L lv) : Wi cs lv [] rs :=
  ⟨fun j hj => by rw [refsF_nil]; exact g.N j hj, fun j hj hn _ => (g.K j hj hn).rt, g.E, fun x hx => (g.R x hx).imp_right fun h => ⟨h.1, h.2.1⟩, fun _ h => by simp at h⟩
theorem Wi.kl (h : Wi cs lv [] ext) : ∀ c ∈ cs, c.k.length ≤ 4 := by
  intro c hc
  obtain ⟨j, hj, rfl⟩ := List.getElem_of_mem hc
  have e : cAt cs j = cs[j] := by simp [cAt, hj]
  rw [← e]
  by_cases hn : (cAt cs j).n = 0
  · rw [(h.E j hj hn).2]; simp
  · rcases h.K j hj hn (by simp) with ⟨_, h3⟩ | ⟨_, _, _, h3, _⟩
    · rw [h3]; simp
    · omega
theorem Gd.path (g : Gd cs rs L lv) (a : Nat) : ∀ (l : Nat) (k : Int), RefTo cs lv (l : Int) k → PathOk cs a l k
  | 0, k, hk => by unfold PathOk; rcases hk with rfl | hk <;> omega
  | 1, k, hk => by unfold PathOk; rcases hk with rfl | hk <;> omega
  | l + 2, k, hk => by
    rw [PathOk]
    refine ⟨by rcases hk with rfl | hk <;> omega, fun h0 => ?_⟩
    rcases hk with rfl | ⟨h1, h2, h3, h4⟩
    · omega
    have e : cellAt cs k = cAt cs k.toNat := rfl
    rw [e]
    have hkk := g.refK (j := k.toNat) (by omega) h3
    rcases g.K k.toNat (by omega) h3 with ⟨r1, _⟩ | ⟨r1, r2, r3, r4, r5, r6⟩
    · omega
    · refine ⟨r4, Gd.path g a (l + 1) _ ?_⟩
      have hd := dig_lt a (l + 2)
      have hm : kidAt (cAt cs k.toNat) (dig a (l + 2)) ∈ kidsN cs k.toNat := by
        unfold kidAt kidsN
        rw [List.getD_eq_getElem?_getD, List.getElem?_eq_getElem (show dig a (l + 2) < (cAt cs k.toNat).k.length by omega)]
        exact List.getElem_mem _
      have := hkk _ hm
      rwa [h4, show ((l + 2 : Nat) : Int) - 1 = ((l + 1 : Nat) : Int) by omega] at this
end
def plRes (cs : List PC) (rs : List Int) (L root a : Nat) (leaf : ByteArray) : List PC × List Int :=
  if leafP cs a L (rs.getD root 0) = leaf then (cs, rs) else ((putP a leaf L cs (rs.getD root 0)).1, rs.set root (putP a leaf L cs (rs.getD root 0)).2)
def plAsk (cs : List PC) (rs : List Int) (L root at_ : Int) (leaf : ByteArray) : Bool :=
  goodI cs rs L && (decide (0 ≤ root ∧ root ≤ (rs.length : Int) - 1) && (decide (0 ≤ at_ ∧ at_ ≤ ((4 ^ (L.toNat - 1) : Nat) : Int) - 1) && decide (leaf.size ≤ 8)))
def putLeafP (cs : List PC) (rs : List Int) (L root at_ : Int) (leaf : ByteArray) : Option (List PC × List Int) :=
  if plAsk cs rs L root at_ leaf then
    if goodI (plRes cs rs L.toNat root.toNat at_.toNat leaf).1 (plRes cs rs L.toNat root.toNat at_.toNat leaf).2 L then some (plRes cs rs L.toNat root.toNat at_.toNat leaf) else none
  else none
theorem good_path {cs : List PC} {rs : List Int} {L root a : Nat} (h : goodI cs rs L = true) (hr : root < rs.length) : PathOk cs a L (rs.getD root 0) := by
  obtain ⟨_, lv, g⟩ := goodI_iff.1 h
  refine g.path a L _ (g.refR _ ?_)
  rw [List.getD_eq_getElem?_getD, List.getElem?_eq_getElem hr]
  exact List.getElem_mem hr
/-- a put in a valid state -/
theorem good_put {cs : List PC} {rs : List Int} {L root a : Nat} {leaf : ByteArray} (h : goodI cs rs L = true) (hr : root < rs.length) (hne : leafP cs a L (rs.getD root 0) ≠ leaf) :
    PutOk a leaf L cs (rs.getD root 0) ∧ ∃ lv lv', Gd cs rs L lv ∧ PutR a leaf L cs lv [] (rs.getD root 0) (rs.eraseIdx root) (putP a leaf L cs (rs.getD root 0)).1 (putP a leaf L cs (rs.getD root 0)).2 lv' := by
  obtain ⟨hrg, lv, g⟩ := goodI_iff.1 h
  obtain ⟨hL, hc, hr1, hr8⟩ := rng_iff.1 hrg
  have hm : rs.getD root 0 = rs[root] := by rw [List.getD_eq_getElem?_getD, List.getElem?_eq_getElem hr]; rfl
  have hw : Wi cs lv [] (rs.getD root 0 :: rs.eraseIdx root) := g.wi.perm (by rw [hm]; exact (ers_perm hr).symm)
  have hel : (rs.eraseIdx root).length ≤ 8 := by rw [List.length_eraseIdx_of_lt hr]; omega
  obtain ⟨h1, lv', h2⟩ := put_spec a leaf L (by omega) (by omega) cs lv [] (rs.eraseIdx root) (rs.getD root 0) hw ((g.R _ (by rw [hm]; exact List.getElem_mem hr))) (fun _ h => by simp at h) (fun e h => hne (h.trans e.symm)) (by omega) (by omega)
  exact ⟨h1, lv, lv', g, h2⟩
theorem plRes_kl {cs : List PC} {rs : List Int} {L root a : Nat} {leaf : ByteArray} (h : goodI cs rs L = true) (hr : root < rs.length) : ∀ c ∈ (plRes cs rs L root a leaf).1, c.k.length ≤ 4 := by
  unfold plRes
  split
  · obtain ⟨_, lv, g⟩ := goodI_iff.1 h
    exact g.wi.kl
  · rename_i hne
    obtain ⟨_, lv, lv', _, p⟩ := good_put h hr hne
    exact p.wi.kl
end Go.Proofs.Ytboccoihmginiaa

namespace Go.Proofs.Ytboccoihmginiaa
open Go.RowKit Go.Sol
set_option linter.unusedVariables false
set_option linter.unusedSimpArgs false
theorem isRoot_ok {w : World} {a b : Sl} {gs : List GC} {rs : List Int} {L root : Int} (h : RW w a b gs rs) (hkl : ∀ g ∈ gs, g.1.k.length ≤ 1048576) :
    Calls Try.prog 21 #[.agg #[Sl.v a, Sl.v b, .int .i64 L], .int .i64 root] w fun e w' => e = .returned (.bool (goodI (pcs gs) rs L && decide (0 ≤ root ∧ root ≤ (rs.length : Int) - 1))) ∧ Below w.heap.size w w' := by
  have hnb : b.n = rs.length := by simpa using h.r.n1
  have hbm := h.r.2.1
  refine run_pure (fun R => f21_impl_isRoot.ok R a b L root w) fun R hR w1 N1 st => ?_
  unfold f21_impl_isRoot.T f21_impl_isRoot.J1
  refine t_callp st (goodI_ok (h.st st) hkl) fun w2 N2 st => ?_
  refine t_ite (fun h1 => ?_) (fun h1 => ?_)
  · rw [w64i (by omega) (by simp only [maxLen] at hbm; omega)]
    refine t_callp st (within_ok _ _ _) fun w2 N2 st => ?_
    exact hR _ _ _ _ st (by rw [h1, hnb]; rfl)
  · exact hR _ _ _ _ st (by rw [h1]; rfl)
abbrev tupB : Sl × Sl × Int × Bool → Value := fun z => .tuple #[.agg #[Sl.v z.1, Sl.v z.2.1, .int .i64 z.2.2.1], .bool z.2.2.2]
def plPost (L : Int) (r : Option (List PC × List Int)) (y : Sl × Sl × Int × Bool) (cs1 : List Ch) : Prop :=
  match r with
  | none => y = (Sl.nil, Sl.nil, 0, false) ∧ cs1 = []
  | some p => ∃ gs', pcs gs' = p.1 ∧ y.2.2 = (L, true) ∧ cs1 = cowO y.1 y.2.1 gs' p.2
theorem pl_none {L : Int} {y : Sl × Sl × Int × Bool} {cs1 : List Ch} (h : y = (Sl.nil, Sl.nil, 0, false)) (h2 : cs1 = []) {r : Option (List PC × List Int)} (hr : r = none) : plPost L r y cs1 := by subst hr; exact ⟨h, h2⟩
theorem pl_some {L : Int} {y : Sl × Sl × Int × Bool} {gs' : List GC} {p : List PC × List Int} {cs1 : List Ch} (h1 : pcs gs' = p.1) (h2 : y.2.2 = (L, true)) (h3 : cs1 = cowO y.1 y.2.1 gs' p.2) {r : Option (List PC × List Int)} (hr : r = some p) : plPost L r y cs1 := by subst hr; exact ⟨gs', h1, h2, h3⟩
theorem kl_of {gs' : List GC} {l : List PC} (h : pcs gs' = l) (hk : ∀ c ∈ l, c.k.length ≤ 4) : ∀ g ∈ gs', g.1.k.length ≤ 1048576 := by
  intro g hg
  have := hk g.1 (by rw [← h]; exact List.mem_map.2 ⟨g, hg, rfl⟩)
  omega
theorem PutLeafI_ok {w : World} {a b : Sl} {gs : List GC} {rs : List Int} {L root at_ : Int} {leaf : ByteArray} (h : RW w a b gs rs) (hkl : ∀ g ∈ gs, g.1.k.length ≤ 1048576) :
    Calls Try.prog 6 #[.agg #[Sl.v a, Sl.v b, .int .i64 L], .int .i64 root, .int .i64 at_, .string leaf] w fun e w' => ∃ (y : Sl × Sl × Int × Bool) (cs1 : List Ch), e = .returned (tupB y) ∧ plPost L (putLeafP (pcs gs) rs L root at_ leaf) y cs1 ∧ Res w [] w' cs1 := by
  have hnb : b.n = rs.length := by simpa using h.r.n1
  have hna := h.c.n
  have hbm := h.r.2.1
  refine run_ok (fun R => f6_impl_PutLeaf.ok R a b L root at_ leaf w) [] (Own.nil w NO) tupB (fun y cs1 => plPost L (putLeafP (pcs gs) rs L root at_ leaf) y cs1) fun R hR w1 N1 st => ?_
  have hno : putLeafP (pcs gs) rs L root at_ leaf = none → ∀ {cs w' N'}, Stt w [] cs w' N' → T.ret R (.tuple #[.agg #[Sl.v Sl.nil, Sl.v Sl.nil, .int .i64 0], .bool false]) w' N' :=
    fun hn {cs w' N'} st => hR (Sl.nil, Sl.nil, 0, false) [] _ _ _ (st.sub (List.nil_sublist _)) (pl_none rfl rfl hn) rfl
  have hno1 : plAsk (pcs gs) rs L root at_ leaf = false → ∀ {cs w' N'}, Stt w [] cs w' N' → f6_impl_PutLeaf.J1 R a b L root at_ leaf true w' N' := by
    intro hf cs w' N' st
    unfold f6_impl_PutLeaf.J1
    exact t_itet rfl (hno (by unfold putLeafP; rw [hf]; rfl) st)
  unfold f6_impl_PutLeaf.T
  refine t_callp st (isRoot_ok (h.st st) hkl) fun w2 N2 st => ?_
  refine t_ite (fun h1 => ?_) (fun h1 => ?_)
  · refine hno1 ?_ st
    have h1 : (goodI (pcs gs) rs L && decide (0 ≤ root ∧ root ≤ (rs.length : Int) - 1)) = false := by simpa only [Bool.not_eq_true'] using h1
    unfold plAsk
    rw [← Bool.and_assoc, h1]; rfl
  have h1 : (goodI (pcs gs) rs L && decide (0 ≤ root ∧ root ≤ (rs.length : Int) - 1)) = true := by simpa only [Bool.not_eq_false'] using h1
  have hask : plAsk (pcs gs) rs L root at_ leaf = (decide (0 ≤ at_ ∧ at_ ≤ ((4 ^ (L.toNat - 1) : Nat) : Int) - 1) && decide (leaf.size ≤ 8)) := by
    unfold plAsk
    rw [← Bool.and_assoc, h1]; rfl
  obtain ⟨hg, hroot⟩ : goodI (pcs gs) rs L = true ∧ (0 ≤ root ∧ root ≤ (rs.length : Int) - 1) := by simpa only [Bool.and_eq_true, decide_eq_true_eq] using h1
  obtain ⟨hL, hc80, hr1, hr8⟩ := rng_iff.1 (goodI_iff.1 hg).1
  rw [pcs_len] at hc80
  obtain ⟨l, rfl⟩ : ∃ l : Nat, L = (l : Int) := ⟨L.toNat, by omega⟩
  rw [Int.toNat_natCast] at hask
  obtain ⟨q, rfl⟩ : ∃ q : Nat, root = (q : Int) := ⟨root.toNat, by omega⟩
  have hq : q < rs.length := by omega
  have hp4 : 4 ^ (l - 1) ≤ 4 ^ 3 := Nat.pow_le_pow_right (by omega) (by omega)
  have hp4 : 4 ^ (l - 1) ≤ 64 := hp4
  have hp0 : (0 : Int) ≤ ((4 ^ (l - 1) : Nat) : Int) := Int.natCast_nonneg _
  refine t_callp st (places_ok a b (lv := l) (by omega) (by omega)) fun w2 N2 st => ?_
  rw [w64i (by omega) (by omega)]
  refine t_callp st (within_ok _ _ _) fun w2 N2 st => ?_
  refine t_ite (fun h2 => ?_) (fun h2 => ?_)
  · refine hno1 ?_ st
    rw [hask, show decide (0 ≤ at_ ∧ at_ ≤ ((4 ^ (l - 1) : Nat) : Int) - 1) = false by simpa only [Bool.not_eq_true'] using h2]; rfl
  have h2 : decide (0 ≤ at_ ∧ at_ ≤ ((4 ^ (l - 1) : Nat) : Int) - 1) = true := by simpa only [Bool.not_eq_false'] using h2
  rw [h2, Bool.true_and] at hask
  have h2 : 0 ≤ at_ ∧ at_ ≤ ((4 ^ (l - 1) : Nat) : Int) - 1 := by simpa using h2
  obtain ⟨p, rfl⟩ : ∃ p : Nat, at_ = (p : Int) := ⟨at_.toNat, by omega⟩
  by_cases h3 : ¬ leaf.size ≤ 8
  · rw [decide_eq_true (by omega)]
    exact hno1 (by rw [hask, decide_eq_false h3]) st
  have h3 : leaf.size ≤ 8 := Decidable.not_not.1 h3
  rw [decide_eq_false (by omega)]
  rw [decide_eq_true h3] at hask
  have hres : putLeafP (pcs gs) rs l q p leaf = if goodI (plRes (pcs gs) rs l q p leaf).1 (plRes (pcs gs) rs l q p leaf).2 l then some (plRes (pcs gs) rs l q p leaf) else none := by
    unfold putLeafP
    rw [if_pos hask, Int.toNat_natCast, Int.toNat_natCast, Int.toNat_natCast]
  have hkres := plRes_kl (root := q) (a := p) (leaf := leaf) hg hq
  -- the end
  have hend : ∀ {g : Nat} {a' b' : Sl} {gs' : List GC} {w' : World} {N' : NP}, pcs gs' = (plRes (pcs gs) rs l q p leaf).1 → Stt w [] (hdrCh g a' b' l :: cowO a' b' gs' (plRes (pcs gs) rs l q p leaf).2) w' N' → f6_impl_PutLeaf.J2 R (some ⟨g, 0, none⟩) w' N' := by
    intro g a' b' gs' w' N' hgs st
    unfold f6_impl_PutLeaf.J2
    refine t_nn rfl ?_
    refine t_ldc (x := a') st (fun w' N' st => hdr0 (b := b') (lv := l) st (by simp)) fun w2 N2 st => ?_
    refine t_ldc (x := b') st (fun w' N' st => cellm (c := hdrCh g a' b' l) st (by simp) rfl (j := 1) rfl) fun w2 N2 st => ?_
    refine t_ldc (x := (l : Int)) st (fun w' N' st => cellm (c := hdrCh g a' b' l) st (by simp) rfl (j := 2) rfl) fun w2 N2 st => ?_
    have hrw : RW w2 a' b' gs' (plRes (pcs gs) rs l q p leaf).2 := Own_rw (rest := []) ((st.sub (List.sublist_cons_self _ _)).eq (List.append_nil _).symm).own
    refine t_callp st (goodI_ok hrw (kl_of hgs hkres)) fun w2 N2 st => ?_
    rw [hgs]
    refine t_ite (fun h4 => ?_) (fun h4 => ?_)
    · refine hno ?_ st
      rw [hres, if_neg (by simpa using h4)]
    · refine t_nn rfl ?_
      refine t_ldc (x := a') st (fun w' N' st => hdr0 (b := b') (lv := l) st (by simp)) fun w2 N2 st => ?_
      refine t_ldc (x := b') st (fun w' N' st => cellm (c := hdrCh g a' b' l) st (by simp) rfl (j := 1) rfl) fun w2 N2 st => ?_
      refine t_ldc (x := (l : Int)) st (fun w' N' st => cellm (c := hdrCh g a' b' l) st (by simp) rfl (j := 2) rfl) fun w2 N2 st => ?_
      exact hR (a', b', l, true) _ _ _ _ (st.sub (List.sublist_cons_self _ _)) (pl_some hgs rfl rfl (by rw [hres, if_pos (by simpa using h4)])) rfl
  unfold f6_impl_PutLeaf.J1
  refine t_itef rfl ?_
  refine t_call (cs := []) (rest := []) st (fun _ => ownCow_ok (h.st st) (by omega) (by omega) hkl) fun y cs1 w2 N2 hp st => ?_
  obtain ⟨g, a', b', gs', rfl, hgs, rfl⟩ := hp
  replace st := st.eq (List.append_nil _)
  have hpath := good_path (a := p) hg hq
  have hrq : rs.getD q 0 = rs[q] := by rw [List.getD_eq_getElem?_getD, List.getElem?_eq_getElem hq]; rfl
  rw [hrq] at hpath
  refine t_callp st (leafAt_ok (h.st st) (by omega) (by omega) hq (by omega) hpath) fun w2 N2 st => ?_
  rw [bytes_beq]
  refine t_ite (fun h4 => ?_) (fun h4 => ?_)
  · have h4 : leafP (pcs gs) p l rs[q] ≠ leaf := by simpa using h4
    have hpr : plRes (pcs gs) rs l q p leaf = ((putP p leaf l (pcs gs) rs[q]).1, rs.set q (putP p leaf l (pcs gs) rs[q]).2) := by
      unfold plRes
      rw [hrq, if_neg h4]
    have hgp := (good_put (a := p) hg hq (by rw [hrq]; exact h4)).1
    rw [hrq, ← hgs] at hgp
    have ldb : ∀ {gs' : List GC} {a' : Sl} {rs' : List Int} {w' N'}, Stt w [] (hdrCh g a' b' l :: cowO a' b' gs' rs') w' N' → w'.cell? ((⟨g, 0, none⟩ : Addr).add 1) = some (Sl.v b') := fun {gs' a' rs' w' N'} st => cellm (c := hdrCh g a' b' l) st (by simp) rfl (j := 1) rfl
    refine t_nn rfl ?_
    refine t_ldc (x := b') st (fun w' N' st => ldb st) fun w2 N2 st => ?_
    refine t_nn rfl ?_
    refine t_ldc (x := b') st (fun w' N' st => ldb st) fun w2 N2 st => ?_
    have hrow : ∀ {gs' : List GC} {a' : Sl} {rs' : List Int}, (⟨3, 1, b', ints rs'⟩ : Ch) ∈ hdrCh g a' b' l :: cowO a' b' gs' rs' := by intro gs' a' rs'; simp [cowO]
    have hb'n : b'.n = rs.length := by have := (st.own.ok _ hrow).rd.n1; simpa using this
    obtain ⟨bd, hB, _⟩ := (st.own.ok _ hrow).rd.addr (i := q) (by simp only; omega)
    simp only at hB
    refine t_idx' q hB (by omega) (by omega) (by simp) ?_
    refine t_ldc (x := rs[q]) st (fun w' N' st => cellm st hrow hB (ints_at (by simp [hq]))) fun w2 N2 st => ?_
    refine t_call (cs := hcow g a' b' l gs') (rest := [⟨3, 1, b', ints rs⟩]) (st.perm ?_) (fun o => put_ok (by omega) l (by omega) (by omega) w2 g a' b' gs' l rs[q] o hgp) fun y cs1 w2 N2 hq2 st => ?_
    · simp only [hcow, cowO, List.append_assoc, List.cons_append, List.nil_append]
      exact List.perm_middle
    obtain ⟨a2, gs2, hput, rfl⟩ := hq2
    rw [hgs] at hput
    replace st : Stt w [] (hdrCh g a2 b' l :: cowO a2 b' gs2 rs) w2 N2 := by
      refine st.perm ?_
      simp only [hcow, cowO, List.append_assoc, List.cons_append, List.nil_append]
      exact List.perm_middle.symm
    refine t_chk st (fun w' N' st => ldb st) fun w2 N2 st => ?_
    refine t_idx' q hB (by omega) (by omega) (by simp) ?_
    refine t_stcm (l1 := hdrCh g a2 b' l :: cowCh a2 gs2) (l2 := []) (c := ⟨3, 1, b', ints rs⟩) (j := q) st hB (by simpa using hq) rfl fun w2 N2 st => ?_
    refine hend (gs' := gs2) (a' := a2) (b' := b') (by rw [hpr, ← hput]) (st.eq ?_)
    rw [hpr, ← hput]
    simp [cowO, ints]
  · have h4 : leafP (pcs gs) p l rs[q] = leaf := by simpa using h4
    have hpr : plRes (pcs gs) rs l q p leaf = (pcs gs, rs) := by
      unfold plRes
      rw [hrq, if_pos h4]
    exact hend (by rw [hpr, hgs]) (st.eq (by rw [hpr]))
theorem PutLeafS_ok {w : World} {a b : Sl} {gs : List GC} {rs : List Int} {L root at_ : Int} {leaf : ByteArray} (h : RW w a b gs rs) (hkl : ∀ g ∈ gs, g.1.k.length ≤ 1048576) :
    Calls Try.prog 7 #[.agg #[Sl.v a, Sl.v b, .int .i64 L], .int .i64 root, .int .i64 at_, .string leaf] w fun e w' => ∃ (y : Sl × Sl × Int × Bool) (cs1 : List Ch), e = .returned (tupB y) ∧ plPost L (putLeafP (pcs gs) rs L root at_ leaf) y cs1 ∧ Res w [] w' cs1 := by
  have hnb : b.n = rs.length := by simpa using h.r.n1
  have hna := h.c.n
  have hbm := h.r.2.1
  refine run_ok (fun R => f7_spec_PutLeaf.ok R a b L root at_ leaf w) [] (Own.nil w NO) tupB (fun y cs1 => plPost L (putLeafP (pcs gs) rs L root at_ leaf) y cs1) fun R hR w1 N1 st => ?_
  have hno : putLeafP (pcs gs) rs L root at_ leaf = none → ∀ {cs w' N'}, Stt w [] cs w' N' → T.ret R (.tuple #[.agg #[Sl.v Sl.nil, Sl.v Sl.nil, .int .i64 0], .bool false]) w' N' :=
    fun hn {cs w' N'} st => hR (Sl.nil, Sl.nil, 0, false) [] _ _ _ (st.sub (List.nil_sublist _)) (pl_none rfl rfl hn) rfl
  have hno1 : plAsk (pcs gs) rs L root at_ leaf = false → ∀ {cs w' N'}, Stt w [] cs w' N' → f7_spec_PutLeaf.J1 R a b L root at_ leaf true w' N' := by
    intro hf cs w' N' st
    unfold f7_spec_PutLeaf.J1
    exact t_itet rfl (hno (by unfold putLeafP; rw [hf]; rfl) st)
  unfold f7_spec_PutLeaf.T
  refine t_callp st (goodS_ok' (h.st st) hkl) fun w2 N2 st => ?_
  refine t_ite (fun h1 => ?_) (fun h1 => ?_)
  · refine hno1 ?_ st
    unfold plAsk
    rw [show goodI (pcs gs) rs L = false by simpa using h1]; rfl
  have hg : goodI (pcs gs) rs L = true := by simpa using h1
  obtain ⟨hL, hc80, hr1, hr8⟩ := rng_iff.1 (goodI_iff.1 hg).1
  rw [pcs_len] at hc80
  rw [w64i (by omega) (by omega)]
  refine t_callp st (l1In_ok _ _ _) fun w2 N2 st => ?_
  rw [hnb]
  refine t_ite (fun h2 => ?_) (fun h2 => ?_)
  · refine hno1 ?_ st
    unfold plAsk
    rw [show decide (0 ≤ root ∧ root ≤ (rs.length : Int) - 1) = false by simpa only [Bool.not_eq_true'] using h2]; simp
  have hroot : 0 ≤ root ∧ root ≤ (rs.length : Int) - 1 := by
    have : decide (0 ≤ root ∧ root ≤ (rs.length : Int) - 1) = true := by simpa only [Bool.not_eq_false'] using h2
    simpa using this
  have hask : plAsk (pcs gs) rs L root at_ leaf = (decide (0 ≤ at_ ∧ at_ ≤ ((4 ^ (L.toNat - 1) : Nat) : Int) - 1) && decide (leaf.size ≤ 8)) := by
    unfold plAsk
    rw [hg, decide_eq_true hroot]; rfl
  obtain ⟨l, rfl⟩ : ∃ l : Nat, L = (l : Int) := ⟨L.toNat, by omega⟩
  rw [Int.toNat_natCast] at hask
  obtain ⟨q, rfl⟩ : ∃ q : Nat, root = (q : Int) := ⟨root.toNat, by omega⟩
  have hq : q < rs.length := by omega
  have hp4 : 4 ^ (l - 1) ≤ 4 ^ 3 := Nat.pow_le_pow_right (by omega) (by omega)
  have hp4 : 4 ^ (l - 1) ≤ 64 := hp4
  have hp0 : (0 : Int) ≤ ((4 ^ (l - 1) : Nat) : Int) := Int.natCast_nonneg _
  refine t_callp st (l14Places_ok a b (lv := l) (by omega) (by omega)) fun w2 N2 st => ?_
  rw [w64i (by omega) (by omega)]
  refine t_callp st (l1In_ok _ _ _) fun w2 N2 st => ?_
  refine t_ite (fun h2 => ?_) (fun h2 => ?_)
  · refine hno1 ?_ st
    rw [hask, show decide (0 ≤ at_ ∧ at_ ≤ ((4 ^ (l - 1) : Nat) : Int) - 1) = false by simpa only [Bool.not_eq_true'] using h2]; rfl
  have h2 : decide (0 ≤ at_ ∧ at_ ≤ ((4 ^ (l - 1) : Nat) : Int) - 1) = true := by simpa only [Bool.not_eq_false'] using h2
  rw [h2, Bool.true_and] at hask
  have h2 : 0 ≤ at_ ∧ at_ ≤ ((4 ^ (l - 1) : Nat) : Int) - 1 := by simpa using h2
  obtain ⟨p, rfl⟩ : ∃ p : Nat, at_ = (p : Int) := ⟨at_.toNat, by omega⟩
  have hpl : p < 4 ^ (l - 1) := by omega
  by_cases h3 : ¬ leaf.size ≤ 8
  · rw [decide_eq_true (by omega)]
    exact hno1 (by rw [hask, decide_eq_false h3]) st
  have h3 : leaf.size ≤ 8 := Decidable.not_not.1 h3
  rw [decide_eq_false (by omega)]
  rw [decide_eq_true h3] at hask
  have hres : putLeafP (pcs gs) rs l q p leaf = if goodI (plRes (pcs gs) rs l q p leaf).1 (plRes (pcs gs) rs l q p leaf).2 l then some (plRes (pcs gs) rs l q p leaf) else none := by
    unfold putLeafP
    rw [if_pos hask, Int.toNat_natCast, Int.toNat_natCast, Int.toNat_natCast]
  have hkres := plRes_kl (root := q) (a := p) (leaf := leaf) hg hq
  have hpath := good_path (a := p) hg hq
  have hrq : rs.getD q 0 = rs[q] := by rw [List.getD_eq_getElem?_getD, List.getElem?_eq_getElem hq]; rfl
  rw [hrq] at hpath
  obtain ⟨bd, hB, hbc⟩ := h.r.addr (i := q) (by omega)
  unfold f7_spec_PutLeaf.J1
  refine t_itef rfl ?_
  refine t_idx' q hB (by omega) (by omega) (by simp) ?_
  refine t_ldc (x := rs[q]) st (fun w' N' s => s.old0 (hbc q _ (ints_at (by simp [hq])))) fun w2 N2 st => ?_
  refine t_callq st (fun w' N' s => l14Leaf_ok (h.st s) (by omega) (by omega) hpl hpath) fun w2 N2 st => ?_
  rw [bytes_beq]
  refine t_ite (fun h4 => ?_) (fun h4 => ?_)
  · have h4 : leafP (pcs gs) p l rs[q] = leaf := by simpa using h4
    have hpr : plRes (pcs gs) rs l q p leaf = (pcs gs, rs) := by
      unfold plRes
      rw [hrq, if_pos h4]
    refine t_call (cs := []) (rest := []) st (fun _ => l14Own_ok (h.st st) (by omega) (by omega) hkl) fun y cs1 w2 N2 hp st => ?_
    obtain ⟨gs', hy, hgs, hyn, rfl⟩ := hp
    obtain ⟨a', b', L'⟩ := y
    simp only at hy
    subst hy
    exact hR (a', b', l, true) _ _ _ _ (st.eq (List.append_nil _)) (pl_some (p := (pcs gs, rs)) hgs rfl rfl (by rw [hres, hpr, if_pos hg])) rfl
  · have h4 : leafP (pcs gs) p l rs[q] ≠ leaf := by simpa using h4
    have hpr : plRes (pcs gs) rs l q p leaf = ((putP p leaf l (pcs gs) rs[q]).1, rs.set q (putP p leaf l (pcs gs) rs[q]).2) := by
      unfold plRes
      rw [hrq, if_neg h4]
    have hgp := (good_put (a := p) hg hq (by rw [hrq]; exact h4)).1
    rw [hrq] at hgp
    refine t_idx' q hB (by omega) (by omega) (by simp) ?_
    refine t_ldc (x := rs[q]) st (fun w' N' s => s.old0 (hbc q _ (ints_at (by simp [hq])))) fun w2 N2 st => ?_
    refine t_call (cs := []) (rest := []) st (fun _ => l14Own_ok (h.st st) (by omega) (by omega) hkl) fun y cs1 w2 N2 hp st => ?_
    obtain ⟨gs', hy, hgs, hyn, rfl⟩ := hp
    obtain ⟨a', b', L'⟩ := y
    simp only at hy hyn st
    subst hy
    simp only
    refine t_chk st (fun w' N' s => s.old0 (hbc q _ (ints_at (by simp [hq])))) fun w2 N2 st => ?_
    have hmod : (p : Int) = ((p % 4 ^ (l - 1) : Nat) : Int) := by rw [Nat.mod_eq_of_lt hpl]
    rw [hmod]
    rw [← hgs] at hgp
    refine t_call (cs := cowCh a' gs') (rest := [⟨3, 1, b', ints rs⟩]) (st.eq (by simp [cowO])) (fun o => l14Put_ok l (by omega) (by omega) w2 a' b' gs' l rs[q] o hgp) fun y cs1 w2 N2 hq2 st => ?_
    obtain ⟨hy1, hy2, gs2, hput, rfl⟩ := hq2
    obtain ⟨a2, b2, L2, k2⟩ := y
    simp only at hy1 hy2 hput st
    subst hy1 hy2
    rw [hgs] at hput
    simp only
    have hrow : (⟨3, 1, b2, ints rs⟩ : Ch) ∈ cowCh a2 gs2 ++ [⟨3, 1, b2, ints rs⟩] := by simp
    obtain ⟨bd2, hB2, _⟩ := (st.own.ok _ hrow).rd.addr (i := q) (by simp only; omega)
    simp only at hB2
    refine t_idx' q hB2 (by omega) (by omega) (by simp) ?_
    refine t_stcm (l1 := cowCh a2 gs2) (l2 := []) (c := ⟨3, 1, b2, ints rs⟩) (j := q) st hB2 (by simpa using hq) rfl fun w2 N2 st => ?_
    have hgs2 : pcs gs2 = (plRes (pcs gs) rs l q p leaf).1 := by rw [hpr, ← hput]
    replace st : Stt w [] (cowO a2 b2 gs2 (plRes (pcs gs) rs l q p leaf).2) w2 N2 := by
      refine st.eq ?_
      rw [hpr, ← hput]
      simp [cowO, ints]
    have hrw : RW w2 a2 b2 gs2 (plRes (pcs gs) rs l q p leaf).2 := Own_rw (rest := []) (st.eq (List.append_nil _).symm).own
    refine t_callp st (goodS_ok' hrw (kl_of hgs2 hkres)) fun w2 N2 st => ?_
    rw [hgs2]
    refine t_ite (fun h5 => ?_) (fun h5 => ?_)
    · exact hno (by rw [hres, if_neg (by simpa using h5)]) st
    · exact hR (a2, b2, l, true) _ _ _ _ st (pl_some hgs2 rfl rfl (by rw [hres, if_pos (by simpa using h5)])) rfl
end Go.Proofs.Ytboccoihmginiaa

namespace Go.Proofs.Ytboccoihmginiaa
open Go.RowKit Go.Sol
set_option linter.unusedVariables false
set_option linter.unusedSimpArgs false
/-- a result of PutLeaf, told plainly -/
def plFlat (L : Int) : Option (List PC × List Int) → List PC × List Int × Int × Bool
  | none => ([], [], 0, false)
  | some p => (p.1, p.2, L, true)
theorem plPost_st {w0 w : World} {N : NP} {cs1 rest : List Ch} {L : Int} {r : Option (List PC × List Int)} {y : Sl × Sl × Int × Bool} (h : plPost L r y cs1) (st : Stt w0 [] (cs1 ++ rest) w N) :
    ∃ gs', (pcs gs', (plFlat L r).2.1, y.2.2.1, y.2.2.2) = plFlat L r ∧ Stt w0 [] (cowO y.1 y.2.1 gs' (plFlat L r).2.1 ++ rest) w N := by
  cases r with
  | none =>
    obtain ⟨rfl, rfl⟩ := h
    refine ⟨[], rfl, ?_⟩
    exact ((st.triv 3 1 Sl.nil rfl rfl).triv 70 3 Sl.nil rfl rfl).eq rfl
  | some p =>
    obtain ⟨gs', h1, h2, rfl⟩ := h
    refine ⟨gs', ?_, st⟩
    simp only [plFlat, h1, h2]
end Go.Proofs.Ytboccoihmginiaa

namespace Go.Proofs.Ytboccoihmginiaa
open Go.RowKit Go.Sol
set_option linter.unusedVariables false
set_option linter.unusedSimpArgs false
theorem Own.apt {w : World} {N : NP} {a b : List Ch} {c : Ch} (o : Own w N (a ++ b)) (hc : c ∈ b) : Apt c.s (fps a) := by
  by_cases h0 : c.s.c = 0
  · refine .inl ?_
    have := (o.ok c (List.mem_append_right _ hc)).2.1
    omega
  · refine .inr fun ad hA hm => ?_
    have hnd := o.nd
    rw [fps_append] at hnd
    have hb : ad.block ∈ fps b := mem_fps.2 ⟨c, hc, by simp [Sl.fp, hA, h0]⟩
    exact (List.nodup_append.1 hnd).2.2 _ hm _ hb rfl
def u8s (bs : List Int) : List Value := bs.map (.int .u8 ·)
def strs (xs : List ByteArray) : List Value := xs.map .string
def curCh (g : Nat) (a : Sl) (at_ seed : Int) : Ch := ⟨51, 3, ⟨some ⟨g, 0, none⟩, 1, 1⟩, [Sl.v a, .int .i64 at_, .int .u64 seed]⟩
/-- the bytes that a cursor reads, apart from it -/
structure CurOk (w : World) (g : Nat) (a : Sl) (bs : List Int) : Prop where
  r : Rd w 1 a (u8s bs)
  b : ∀ x ∈ bs, 0 ≤ x ∧ x ≤ 255
  a : Apt a [g]
theorem cur_fps (g : Nat) (a : Sl) (at_ seed : Int) : fps [curCh g a at_ seed] = [g] := by simp [fps, curCh, Sl.fp]
theorem CurOk.st {w w' : World} {N : NP} {cs cs0 : List Ch} {g : Nat} {a : Sl} {bs : List Int} (h : CurOk w g a bs) (st : Stt w cs0 cs w' N) (hf : fps cs0 = [g]) : CurOk w' g a bs :=
  ⟨st.rd h.r (by rw [hf]; exact h.a.rd), h.b, h.a⟩
theorem wrapU (x : Int) : 0 ≤ IntKind.u64.wrap x ∧ IntKind.u64.wrap x < 18446744073709551616 := by
  simp only [IntKind.wrap, IntKind.bits, IntKind.signed]
  simp
  omega
theorem mask255 {x : Int} (h0 : 0 ≤ x) (h1 : x < 18446744073709551616) : 0 ≤ bits .and .u64 x 255 ∧ bits .and .u64 x 255 ≤ 255 := by
  have e64 : (2 : Int) ^ 64 = 18446744073709551616 := by decide
  have h := bits_mask .u64 64 (by decide) (fun m h0 h1 => by rw [e64] at h1; simp only [IntKind.wrap, IntKind.bits, IntKind.signed]; simp; omega) 8 (by decide) x h0 (by rw [e64]; exact h1)
  have e : ((2 : Int) ^ 8 - 1) = 255 := by decide
  have e2 : ((2 : Int) ^ 8) = 256 := by decide
  rw [e, e2] at h
  rw [h]
  omega
/-- what a choice leaves -/
def CurPost (g : Nat) (a : Sl) (at_ k : Int) (cs1 : List Ch) : Prop := ∃ at2 s2, 0 ≤ at2 ∧ at2 ≤ at_ + k ∧ cs1 = [curCh g a at2 s2]
theorem next_ok {w : World} {g : Nat} {a : Sl} {bs : List Int} {at_ seed : Int} (h : CurOk w g a bs) (o : Own w NO [curCh g a at_ seed]) (h0 : 0 ≤ at_) (h1 : at_ ≤ 4611686018427387904) :
    Calls Try.prog 50 #[.pointer (some ⟨g, 0, none⟩)] w fun e w' => ∃ (y : Int) (cs1 : List Ch), e = .returned (.int .i64 y) ∧ ((0 ≤ y ∧ y ≤ 255) ∧ CurPost g a at_ 1 cs1) ∧ Res w [curCh g a at_ seed] w' cs1 := by
  refine run_ok (fun R => f50_spec_l1Cur_next.ok R _ w) _ o (.int .i64) (fun y cs1 => (0 ≤ y ∧ y ≤ 255) ∧ CurPost g a at_ 1 cs1) fun R hR w1 N1 st => ?_
  have hf := cur_fps g a at_ seed
  have ld0 : ∀ {at_ seed w' N' cs0}, Stt w cs0 [curCh g a at_ seed] w' N' → w'.cell? ((⟨g, 0, none⟩ : Addr).add 0) = some (Sl.v a) := fun {at_ seed w' N' cs0} st => cellm (c := curCh g a at_ seed) st (List.mem_singleton_self _) rfl (j := 0) rfl
  have ld1 : ∀ {at_ seed w' N' cs0}, Stt w cs0 [curCh g a at_ seed] w' N' → w'.cell? ((⟨g, 0, none⟩ : Addr).add 1) = some (.int .i64 at_) := fun {at_ seed w' N' cs0} st => cellm (c := curCh g a at_ seed) st (List.mem_singleton_self _) rfl (j := 1) rfl
  have ld2 : ∀ {at_ seed w' N' cs0}, Stt w cs0 [curCh g a at_ seed] w' N' → w'.cell? ((⟨g, 0, none⟩ : Addr).add 2) = some (.int .u64 seed) := fun {at_ seed w' N' cs0} st => cellm (c := curCh g a at_ seed) st (List.mem_singleton_self _) rfl (j := 2) rfl
  have fin : ∀ (b : Int), 0 ≤ b → b ≤ 255 → ∀ {w2 N2}, Stt w [curCh g a at_ seed] [curCh g a at_ seed] w2 N2 → f50_spec_l1Cur_next.J1 R (some ⟨g, 0, none⟩) b w2 N2 := by
    intro b hb0 hb1 w2 N2 st
    unfold f50_spec_l1Cur_next.J1
    refine t_nn rfl ?_
    refine t_ldc (x := at_) st (fun w' N' st => ld1 st) fun w2 N2 st => ?_
    refine t_nn rfl ?_
    rw [w64i (x := at_ + 1) (by omega) (by omega)]
    refine t_stc (i := 0) (j := 1) (c := curCh g a at_ seed) st rfl rfl (by simp [curCh]) rfl fun w2 N2 st => ?_
    replace st : Stt w [curCh g a at_ seed] [curCh g a (at_ + 1) seed] w2 N2 := st
    refine t_nn rfl ?_
    refine t_ldc (x := seed) st (fun w' N' st => ld2 st) fun w2 N2 st => ?_
    refine t_nn rfl ?_
    have hsd := wrapU (IntKind.u64.wrap (IntKind.u64.wrap (seed * 6364136223846793005) + IntKind.u64.wrap b) + 1442695040888963407)
    refine t_stc (i := 0) (j := 2) (c := curCh g a (at_ + 1) seed) st rfl rfl (by simp [curCh]) rfl fun w2 N2 st => ?_
    generalize IntKind.u64.wrap (IntKind.u64.wrap (IntKind.u64.wrap (seed * 6364136223846793005) + IntKind.u64.wrap b) + 1442695040888963407) = sd at *
    replace st : Stt w [curCh g a at_ seed] [curCh g a (at_ + 1) sd] w2 N2 := st
    refine t_nn rfl ?_
    refine t_ldc (x := at_ + 1) st (fun w' N' st => ld1 st) fun w2 N2 st => ?_
    refine t_nn rfl ?_
    refine t_ldc (x := a) st (fun w' N' st => ld0 st) fun w2 N2 st => ?_
    refine t_ite (fun h2 => ?_) (fun h2 => ?_)
    · exact hR b _ _ _ _ st ⟨⟨hb0, hb1⟩, at_ + 1, sd, by omega, by omega, rfl⟩ rfl
    · refine t_nn rfl ?_
      refine t_ldc (x := sd) st (fun w' N' st => ld2 st) fun w2 N2 st => ?_
      have hp : (2 : Int) ^ min (40 : Int).toNat IntKind.u64.bits = 1099511627776 := by decide
      rw [hp]
      have hm := mask255 (x := sd / 1099511627776) (by omega) (by omega)
      rw [w64i (by omega) (by omega)]
      exact hR _ _ _ _ _ st ⟨hm, at_ + 1, sd, by omega, by omega, rfl⟩ rfl
  unfold f50_spec_l1Cur_next.T
  refine t_nn rfl ?_
  refine t_ldc (x := at_) st (fun w' N' st => ld1 st) fun w2 N2 st => ?_
  refine t_nn rfl ?_
  refine t_ldc (x := a) st (fun w' N' st => ld0 st) fun w2 N2 st => ?_
  have hn : a.n = bs.length := by have := h.r.n1; simpa [u8s] using this
  refine t_ite (fun h2 => ?_) (fun h2 => ?_)
  · obtain ⟨i, rfl⟩ : ∃ i : Nat, at_ = (i : Int) := ⟨at_.toNat, by omega⟩
    have hi : i < bs.length := by simp [hn] at h2; exact h2
    refine t_nn rfl ?_
    refine t_ldc (x := a) st (fun w' N' st => ld0 st) fun w2 N2 st => ?_
    refine t_nn rfl ?_
    refine t_ldc (x := (i : Int)) st (fun w' N' st => ld1 st) fun w2 N2 st => ?_
    obtain ⟨ad, hA, hc⟩ := h.r.addr (i := i) (by omega)
    refine t_idx' i hA (by omega) (by omega) (by simp) ?_
    refine t_ldc (x := bs[i]) st (fun w' N' st => ?_) fun w2 N2 st => ?_
    · obtain ⟨ad', hA', hc'⟩ := (h.st st hf).r.addr (i := i) (by omega)
      rw [hA] at hA'
      obtain rfl := Option.some.inj hA'
      exact hc' i _ (by simp [u8s, hi])
    · have hb := h.b bs[i] (List.getElem_mem hi)
      rw [w64i (by omega) (by omega)]
      exact fin _ hb.1 hb.2 st
  · exact fin 0 (by omega) (by omega) st
theorem pick_ok {w : World} {g : Nat} {a : Sl} {bs : List Int} {at_ seed n : Int} (h : CurOk w g a bs) (o : Own w NO [curCh g a at_ seed]) (h0 : 0 ≤ at_) (h1 : at_ ≤ 4611686018427387000) :
    Calls Try.prog 19 #[.pointer (some ⟨g, 0, none⟩), .int .i64 n] w fun e w' => ∃ (y : Int) (cs1 : List Ch), e = .returned (.int .i64 y) ∧ ((0 ≤ y ∧ (n ≤ 1 → y = 0) ∧ (1 < n → y < n)) ∧ CurPost g a at_ 2 cs1) ∧ Res w [curCh g a at_ seed] w' cs1 := by
  refine run_ok (fun R => f19_spec_l1Cur_pick.ok R _ n w) _ o (.int .i64) (fun y cs1 => (0 ≤ y ∧ (n ≤ 1 → y = 0) ∧ (1 < n → y < n)) ∧ CurPost g a at_ 2 cs1) fun R hR w1 N1 st => ?_
  have hf := cur_fps g a at_ seed
  unfold f19_spec_l1Cur_pick.T
  refine t_ite (fun h2 => ?_) (fun h2 => ?_)
  · have h2 : n ≤ 1 := by simpa using h2
    exact hR 0 _ _ _ _ st ⟨⟨by omega, fun _ => rfl, fun h => by omega⟩, at_, seed, h0, by omega, rfl⟩ rfl
  have h2 : 1 < n := by simp at h2; omega
  have fin : ∀ (x at2 s2 : Int), 0 ≤ x → 0 ≤ at2 → at2 ≤ at_ + 2 → ∀ {w2 N2}, Stt w [curCh g a at_ seed] [curCh g a at2 s2] w2 N2 → f19_spec_l1Cur_pick.J1 R n x w2 N2 := by
    intro x at2 s2 hx ha hb w2 N2 st
    unfold f19_spec_l1Cur_pick.J1
    refine t_ass (by omega) ?_
    exact hR _ _ _ _ _ st ⟨⟨Int.tmod_nonneg _ hx, fun h => by omega, fun _ => Int.tmod_lt_of_pos _ (by omega)⟩, at2, s2, ha, hb, rfl⟩ rfl
  refine t_call (cs := [curCh g a at_ seed]) (rest := []) st (fun o => next_ok (h.st st hf) o h0 (by omega)) fun y cs1 w2 N2 hp st => ?_
  obtain ⟨hy, at2, s2, ha, hb, rfl⟩ := hp
  replace st : Stt w [curCh g a at_ seed] [curCh g a at2 s2] w2 N2 := st
  refine t_ite (fun h3 => ?_) (fun h3 => ?_)
  · refine t_call (cs := [curCh g a at2 s2]) (rest := []) st (fun o => next_ok (h.st st hf) o ha (by omega)) fun z cs1 w2 N2 hp st => ?_
    obtain ⟨hz, at3, s3, hc, hd, rfl⟩ := hp
    replace st : Stt w [curCh g a at_ seed] [curCh g a at3 s3] w2 N2 := st
    rw [w64i (x := y * 256) (by omega) (by omega), w64i (by omega) (by omega)]
    exact fin _ at3 s3 (by omega) hc (by omega) st
  · exact fin _ at2 s2 hy.1 ha (by omega) st
theorem of_ok {w : World} {g : Nat} {a s : Sl} {bs : List Int} {xs : List ByteArray} {at_ seed : Int} (h : CurOk w g a bs) (hs : Rd w 1 s (strs xs)) (hA : Apt s [g]) (hx : 1 ≤ xs.length) (o : Own w NO [curCh g a at_ seed]) (h0 : 0 ≤ at_) (h1 : at_ ≤ 4611686018427387000) :
    Calls Try.prog 20 #[.pointer (some ⟨g, 0, none⟩), Sl.v s] w fun e w' => ∃ (y : ByteArray) (cs1 : List Ch), e = .returned (.string y) ∧ (y ∈ xs ∧ CurPost g a at_ 2 cs1) ∧ Res w [curCh g a at_ seed] w' cs1 := by
  refine run_ok (fun R => f20_spec_l1Cur_of.ok R _ s w) _ o Value.string (fun y cs1 => y ∈ xs ∧ CurPost g a at_ 2 cs1) fun R hR w1 N1 st => ?_
  have hf := cur_fps g a at_ seed
  have hn : s.n = xs.length := by have := hs.n1; simpa [strs] using this
  unfold f20_spec_l1Cur_of.T
  refine t_call (cs := [curCh g a at_ seed]) (rest := []) st (fun o => pick_ok (h.st st hf) o h0 (by omega)) fun y cs1 w2 N2 hp st => ?_
  obtain ⟨⟨hy0, hy1, hy2⟩, at2, s2, ha, hb, rfl⟩ := hp
  replace st : Stt w [curCh g a at_ seed] [curCh g a at2 s2] w2 N2 := st
  obtain ⟨i, rfl⟩ : ∃ i : Nat, y = (i : Int) := ⟨y.toNat, by omega⟩
  have hi : i < xs.length := by
    by_cases h5 : (s.n : Int) ≤ 1
    · have := hy1 h5; omega
    · have := hy2 (by omega); omega
  obtain ⟨ad, hA2, hc⟩ := hs.addr (i := i) (by omega)
  refine t_idx' i hA2 (by omega) (by omega) (by simp) ?_
  refine t_ldc (x := xs[i]) st (fun w' N' st => ?_) fun w2 N2 st => ?_
  · obtain ⟨ad', hA', hc'⟩ := (st.rd hs (by rw [hf]; exact hA.rd)).addr (i := i) (by omega)
    rw [hA2] at hA'
    obtain rfl := Option.some.inj hA'
    exact hc' i _ (by simp [strs, hi])
  · exact hR _ _ _ _ _ st ⟨List.getElem_mem hi, at2, s2, ha, hb, rfl⟩ rfl
end Go.Proofs.Ytboccoihmginiaa

namespace Go.Proofs.Ytboccoihmginiaa
open Go.RowKit Go.Sol
set_option linter.unusedVariables false
set_option linter.unusedSimpArgs false
def Shp (gs : List GC) (rs : List Int) : Prop := gs.length ≤ 80 ∧ (1 ≤ rs.length ∧ rs.length ≤ 8) ∧ ∀ g ∈ gs, g.1.k.length ≤ 4
def shPost (L : Int) (y : Sl × Sl × Int × Bool) (cs1 : List Ch) : Prop := (y = (Sl.nil, Sl.nil, 0, false) ∧ cs1 = []) ∨ ∃ gs' rs', Shp gs' rs' ∧ y.2.2 = (L, true) ∧ cs1 = cowO y.1 y.2.1 gs' rs'
theorem Shp.kl {gs : List GC} {rs : List Int} (h : Shp gs rs) : ∀ g ∈ gs, g.1.k.length ≤ 1048576 := fun g hg => by have := h.2.2 g hg; omega
theorem good_shp {gs gs' : List GC} {rs : List Int} {L : Int} (h : goodI (pcs gs) rs L = true) (he : pcs gs' = pcs gs) : Shp gs' rs := by
  obtain ⟨hr, lv, g⟩ := goodI_iff.1 h
  obtain ⟨hL, hc, h1, h8⟩ := rng_iff.1 hr
  have hl := congrArg List.length he
  simp only [pcs_len] at hl hc
  refine ⟨by omega, ⟨h1, h8⟩, fun x hx => ?_⟩
  exact g.wi.kl x.1 (by rw [← he]; exact List.mem_map.2 ⟨x, hx, rfl⟩)
theorem plPost_sh {L : Int} {cs : List PC} {rs : List Int} {root at_ : Int} {leaf : ByteArray} {y : Sl × Sl × Int × Bool} {cs1 : List Ch} (h : plPost L (putLeafP cs rs L root at_ leaf) y cs1) : shPost L y cs1 := by
  unfold putLeafP at h
  split at h
  · split at h
    · rename_i h1
      obtain ⟨gs', h2, h3, h4⟩ := h
      refine .inr ⟨gs', _, good_shp (gs := gs') (gs' := gs') (L := L) (by rw [h2]; exact h1) rfl, h3, h4⟩
    · exact .inl h
  · exact .inl h
theorem NewCow_ok {w : World} (L : Int) : Calls Try.prog 47 #[.int .i64 L] w fun e w' => ∃ (y : Sl × Sl × Int × Bool) (cs1 : List Ch), e = .returned (tupB y) ∧ ((1 ≤ L ∧ L ≤ 3 → ∃ b, y = (Sl.nil, b, L, true) ∧ cs1 = cowO Sl.nil b [] [-1]) ∧ (¬ (1 ≤ L ∧ L ≤ 3) → y = (Sl.nil, Sl.nil, 0, false) ∧ cs1 = [])) ∧ Res w [] w' cs1 := by
  refine run_ok (fun R => f47_spec_NewCow.ok R L w) [] (Own.nil w NO) tupB (fun y cs1 => (1 ≤ L ∧ L ≤ 3 → ∃ b, y = (Sl.nil, b, L, true) ∧ cs1 = cowO Sl.nil b [] [-1]) ∧ (¬ (1 ≤ L ∧ L ≤ 3) → y = (Sl.nil, Sl.nil, 0, false) ∧ cs1 = [])) fun R hR w1 N1 st => ?_
  unfold f47_spec_NewCow.T
  refine t_callp st (l1In_ok _ _ _) fun w2 N2 st => ?_
  refine t_ite (fun h => ?_) (fun h => ?_)
  · have h : ¬ (1 ≤ L ∧ L ≤ 3) := by simp at h; omega
    exact hR (Sl.nil, Sl.nil, 0, false) _ _ _ _ st ⟨fun h2 => absurd h2 h, fun _ => ⟨rfl, rfl⟩⟩ rfl
  · have h : 1 ≤ L ∧ L ≤ 3 := by simpa using h
    refine t_new 1 1 rfl (by decide) st fun g w2 N2 st => ?_
    exact hR (Sl.nil, ⟨some ⟨g, 0, none⟩, 1, 1⟩, L, true) _ _ _ _ (st.triv 70 3 Sl.nil rfl rfl) ⟨fun _ => ⟨_, rfl, rfl⟩, fun h2 => absurd h h2⟩ rfl
theorem TakePicture_ok {w : World} {a b : Sl} {gs : List GC} {rs : List Int} {L root : Int} (h : RW w a b gs rs) (hkl : ∀ g ∈ gs, g.1.k.length ≤ 1048576) :
    Calls Try.prog 48 #[.agg #[Sl.v a, Sl.v b, .int .i64 L], .int .i64 root] w fun e w' => ∃ (y : Sl × Sl × Int × Bool) (cs1 : List Ch), e = .returned (tupB y) ∧ shPost L y cs1 ∧ Res w [] w' cs1 := by
  have hnb : b.n = rs.length := by simpa using h.r.n1
  have hna := h.c.n
  have hbm := h.r.2.1
  refine run_ok (fun R => f48_spec_TakePicture.ok R a b L root w) [] (Own.nil w NO) tupB (fun y cs1 => shPost L y cs1) fun R hR w1 N1 st => ?_
  have hno1 : ∀ {cs w' N'}, Stt w [] cs w' N' → f48_spec_TakePicture.J1 R a b L root true w' N' := by
    intro cs w' N' st
    unfold f48_spec_TakePicture.J1
    exact t_itet rfl (hR (Sl.nil, Sl.nil, 0, false) [] _ _ _ (st.sub (List.nil_sublist _)) (.inl ⟨rfl, rfl⟩) rfl)
  unfold f48_spec_TakePicture.T
  refine t_callp st (goodS_ok' (h.st st) hkl) fun w2 N2 st => ?_
  refine t_ite (fun h1 => hno1 st) (fun h1 => ?_)
  have hg : goodI (pcs gs) rs L = true := by simpa using h1
  obtain ⟨hrg, lv, gd⟩ := goodI_iff.1 hg
  obtain ⟨hL, hc80, hr1, hr8⟩ := rng_iff.1 hrg
  rw [pcs_len] at hc80
  rw [w64i (by omega) (by omega)]
  refine t_callp st (l1In_ok _ _ _) fun w2 N2 st => ?_
  refine t_ite (fun h2 => hno1 st) (fun h2 => ?_)
  have hroot : 0 ≤ root ∧ root ≤ (b.n : Int) - 1 := by simpa using h2
  obtain ⟨q, rfl⟩ : ∃ q : Nat, root = (q : Int) := ⟨root.toNat, by omega⟩
  have hq : q < rs.length := by omega
  by_cases h8 : rs.length = 8
  · rw [hnb, h8]; exact hno1 st
  have e8 : ((b.n : Int) == 8) = false := by simp [hnb]; omega
  rw [e8]
  unfold f48_spec_TakePicture.J1
  refine t_itef rfl ?_
  refine t_call (cs := []) (rest := []) st (fun _ => l14Own_ok (h.st st) (by omega) (by omega) hkl) fun y cs1 w2 N2 hp st => ?_
  obtain ⟨gs', hy, hgs, hyn, rfl⟩ := hp
  obtain ⟨a', b', L'⟩ := y
  simp only at hy hyn st
  subst hy
  simp only
  replace st := st.eq (List.append_nil _)
  have hrow : (⟨3, 1, b', ints rs⟩ : Ch) ∈ cowO a' b' gs' rs := by simp [cowO]
  obtain ⟨bd, hB, _⟩ := (st.own.ok _ hrow).rd.addr (i := q) (by simp only; omega)
  simp only at hB
  refine t_idx' q hB (by omega) (by omega) (by simp) ?_
  refine t_ldc (x := rs[q]) st (fun w' N' st => cellm st hrow hB (ints_at (by simp [hq]))) fun w2 N2 st => ?_
  refine t_new 1 1 rfl (by decide) st fun g2 w2 N2 st => ?_
  have hsrc : Rd w2 1 ⟨some ⟨g2, 0, none⟩, 1, 1⟩ (ints [rs[q]]) := (st.ch (i := 0) rfl).rd
  replace st : Stt w [] ([⟨3, 1, b', ints rs⟩] ++ cowCh a' gs') w2 N2 := (st.sub (List.sublist_cons_self _ _)).perm List.perm_append_comm
  refine t_app τ24 (i := 0) (xs := ints rs) st rfl hsrc (ints_one _) (by simp only; omega) fun s2 w2 N2 hs2 st => ?_
  replace st : Stt w [] (cowCh a' gs' ++ [⟨3, 1, s2, ints (rs ++ [rs[q]])⟩]) w2 N2 := by
    refine (st.eq ?_).perm List.perm_append_comm
    simp [ints]
  have hshp : ∀ {gs2 : List GC}, gs2.length = gs'.length → (∀ g ∈ gs2, g.1.k.length ≤ 4) → Shp gs2 (rs ++ [rs[q]]) := by
    intro gs2 h1 h2
    have := (good_shp hg hgs).1
    exact ⟨by omega, by simp; omega, h2⟩
  have hk4 := (good_shp hg hgs).2.2
  refine t_ite (fun h3 => ?_) (fun h3 => ?_)
  · have h3 : 0 ≤ rs[q] := by simpa using h3
    obtain ⟨x, hx⟩ : ∃ x : Nat, rs[q] = (x : Int) := ⟨rs[q].toNat, by omega⟩
    have hxl : x < gs'.length := by
      have := congrArg List.length hgs
      simp only [pcs_len] at this
      rcases gd.R rs[q] (List.getElem_mem hq) with h4 | h4
      · omega
      · rw [pcs_len] at h4; omega
    have hgx : gs'[x]? = some gs'[x] := List.getElem?_eq_getElem hxl
    rw [hx] at st hshp ⊢
    obtain ⟨ad, hA, hlt⟩ := cow_ad st hxl
    refine t_idx' (x * 3) hA (by omega) hlt (by simp) ?_
    refine t_ldc (x := gs'[x].1.n) st (fun w' N' st => cow_c0 st hA hgx) fun w2 N2 st => ?_
    refine t_idx' (x * 3) hA (by omega) hlt (by simp) ?_
    refine t_c0 st hA hgx fun w2 N2 st => ?_
    unfold f48_spec_TakePicture.J2
    refine hR (a', s2, L', true) _ _ _ _ st (.inr ⟨_, _, hshp (by simp) (fun g hg => ?_), rfl, rfl⟩) rfl
    rcases List.mem_or_eq_of_mem_set hg with hg | rfl
    · exact hk4 g hg
    · exact hk4 gs'[x] (List.getElem_mem hxl)
  · unfold f48_spec_TakePicture.J2
    exact hR (a', s2, L', true) _ _ _ _ st (.inr ⟨gs', _, hshp rfl hk4, rfl, rfl⟩) rfl
section
variable {w0 w : World} {cs0 rest : List Ch} {N : NP} {a s : Sl} {gs : List GC} {i : Nat} {g : GC} {ad : Addr}
/-- a cell cleared; its kids stay behind as a row -/
theorem t_clr {K : Tm} (st : Stt w0 cs0 (cowCh a gs ++ rest) w N) (hA : a.A = some ad) (hg : gs[i]? = some g)
    (k1 : ∀ w' N', Stt w0 cs0 (cowCh a (gs.set i (noP, Sl.nil)) ++ (⟨3, 1, g.2, ints g.1.k⟩ :: rest)) w' N' → K w' N') :
    T.stc ((ad.add (i * 3)).add 0) (.int .i64 0) (T.stc ((ad.add (i * 3)).add 1) (.string ⟨#[]⟩) (T.stc ((ad.add (i * 3)).add 2) (Sl.v Sl.nil) K)) w N := by
  obtain ⟨hil, _⟩ := List.getElem?_eq_some_iff.1 hg
  have st1 : Stt w0 cs0 (cowCh a gs ++ (⟨3, 1, Sl.nil, ints []⟩ :: rest)) w N := (st.triv 3 1 Sl.nil rfl rfl).perm (List.perm_middle)
  refine t_c0 st1 hA hg fun w N st => ?_
  replace st : Stt w0 cs0 (cowCh a (gs.set i (((⟨0, g.1.l, g.1.k⟩ : PC), g.2) : GC)) ++ (⟨3, 1, Sl.nil, ints []⟩ :: rest)) w N := st
  refine t_c1 (g := (((⟨0, g.1.l, g.1.k⟩ : PC), g.2) : GC)) st hA (List.getElem?_set_self hil) fun w N st => ?_
  replace st : Stt w0 cs0 (cowCh a ((gs.set i (((⟨0, g.1.l, g.1.k⟩ : PC), g.2) : GC)).set i (((⟨0, ⟨#[]⟩, g.1.k⟩ : PC), g.2) : GC)) ++ (⟨3, 1, Sl.nil, ints []⟩ :: rest)) w N := st
  rw [List.set_set] at st
  refine t_c2 (k := []) (g := (((⟨0, ⟨#[]⟩, g.1.k⟩ : PC), g.2) : GC)) st hA (List.getElem?_set_self hil) fun w N st => k1 w N ?_
  replace st : Stt w0 cs0 (⟨70, 3, a, cellsV ((gs.set i (((⟨0, ⟨#[]⟩, g.1.k⟩ : PC), g.2) : GC)).set i (noP, Sl.nil))⟩ :: kidCh (gs.set i (((⟨0, ⟨#[]⟩, g.1.k⟩ : PC), g.2) : GC)) ++ (⟨3, 1, Sl.nil, ints []⟩ :: rest)) w N := st
  rw [List.set_set, kidCh_set (g' := (((⟨0, ⟨#[]⟩, g.1.k⟩ : PC), g.2) : GC)) hg rfl rfl] at st
  have hs := split_at hg
  have hset : gs.set i (noP, Sl.nil) = gs.take i ++ (noP, Sl.nil) :: gs.drop (i + 1) := List.set_eq_take_append_cons_drop.trans (by rw [if_pos hil])
  have p1 : (kidCh gs).Perm (⟨3, 1, g.2, ints g.1.k⟩ :: kidCh (gs.take i ++ gs.drop (i + 1))) := by
    conv => lhs; rw [hs]
    exact kid_mid _ _ _
  have p2 : (kidCh (gs.set i (noP, Sl.nil))).Perm (⟨3, 1, Sl.nil, ints []⟩ :: kidCh (gs.take i ++ gs.drop (i + 1))) := by
    rw [hset]; exact kid_mid _ _ _
  simp only [cowCh, List.cons_append] at st ⊢
  refine st.perm (List.Perm.cons _ ?_)
  refine (List.perm_middle).trans ?_
  refine (List.Perm.cons _ (List.Perm.append_right _ p2)).trans ?_
  refine List.Perm.trans ?_ (List.Perm.append_right _ p1.symm)
  rw [List.cons_append]
  exact List.Perm.cons _ List.perm_middle.symm
end
/-- kids' levels go down -/
def Lab (cs : List PC) (lv : Nat → Int) : Prop := ∀ j, ∀ x ∈ kidsN cs j, x < 0 ∨ (x < cs.length ∧ lv x.toNat = lv j - 1 ∧ 2 ≤ lv j)
def Sub (cs cs' : List PC) : Prop := cs'.length = cs.length ∧ ∀ j, kidsN cs' j = kidsN cs j ∨ kidsN cs' j = []
theorem Sub.refl (cs : List PC) : Sub cs cs := ⟨rfl, fun _ => .inl rfl⟩
theorem Sub.trans {a b c : List PC} (h : Sub a b) (k : Sub b c) : Sub a c := ⟨k.1.trans h.1, fun j => by
  rcases k.2 j with e | e
  · rw [e]; exact h.2 j
  · exact .inr e⟩
theorem Lab.sub {cs cs' : List PC} {lv : Nat → Int} (h : Lab cs lv) (k : Sub cs cs') : Lab cs' lv := by
  intro j x hx
  rw [k.1]
  rcases k.2 j with e | e
  · rw [e] at hx; exact h j x hx
  · rw [e] at hx; simp at hx
theorem Sub.set {cs : List PC} {i : Nat} {c : PC} (h : c.k = kidsN cs i ∨ c.k = []) : Sub cs (cs.set i c) := by
  refine ⟨by simp, fun j => ?_⟩
  unfold kidsN at *
  by_cases e : i = j
  · subst e
    by_cases hi : i < cs.length
    · rw [cAt_set_eq hi]; exact h
    · rw [List.set_eq_of_length_le (by omega)]; exact .inl rfl
  · rw [cAt_set_ne e]; exact .inl rfl
abbrev tup3 : Sl × Sl × Int → Value := fun z => .agg #[Sl.v z.1, Sl.v z.2.1, .int .i64 z.2.2]
def DropSpec (lv : Nat → Int) (k : Int) (cs : List PC) : Prop := ∀ (w : World) (a b : Sl) (gs : List GC) (L : Int), Sub cs (pcs gs) → gs.length ≤ 80 → Own w NO (cowCh a gs) →
    Calls Try.prog 63 #[.agg #[Sl.v a, Sl.v b, .int .i64 L], .int .i64 k] w fun e w' => ∃ (y : Sl × Sl × Int) (cs1 : List Ch), e = .returned (tup3 y) ∧ (y = (a, b, L) ∧ ∃ gs', Sub (pcs gs) (pcs gs') ∧ cs1 = cowCh a gs') ∧ Res w (cowCh a gs) w' cs1
theorem drop_step {lv : Nat → Int} {cs : List PC} (hkl : ∀ j, (kidsN cs j).length ≤ 4) {k : Int} (hk : k < cs.length) (hrec : 0 ≤ k → ∀ x ∈ kidsN cs k.toNat, DropSpec lv x cs) : DropSpec lv k cs := by
  intro w a b gs L hsub hg o
  refine run_ok (fun R => f63_spec_l14Drop.ok R a b L k w) _ o tup3 (fun y cs1 => y = (a, b, L) ∧ ∃ gs', Sub (pcs gs) (pcs gs') ∧ cs1 = cowCh a gs') fun R hR w1 N1 st => ?_
  unfold f63_spec_l14Drop.T
  refine t_ite (fun h1 => ?_) (fun h1 => ?_)
  · exact hR (a, b, L) _ _ _ _ st ⟨rfl, gs, Sub.refl _, rfl⟩ rfl
  have h1 : ¬ k < 0 := by simpa using h1
  obtain ⟨i, rfl⟩ : ∃ i : Nat, k = (i : Int) := ⟨k.toNat, by omega⟩
  have hlen := hsub.1
  rw [pcs_len] at hlen
  have hil : i < gs.length := by omega
  have hgi : gs[i]? = some gs[i] := List.getElem?_eq_getElem hil
  replace st : Stt w (cowCh a gs) (cowCh a gs ++ []) w1 N1 := st.eq (List.append_nil _).symm
  obtain ⟨ad, hA, hlt⟩ := cow_ad st hil
  have hkn : kidsN (pcs gs) i = gs[i].1.k := by unfold kidsN cAt; rw [pcs_getD hil]
  refine t_idx' (i * 3) hA (by omega) hlt (by simp) ?_
  refine t_ldc (x := gs[i].1.n) st (fun w' N' st => cow_c0 st hA hgi) fun w2 N2 st => ?_
  refine t_idx' (i * 3) hA (by omega) hlt (by simp) ?_
  refine t_c0 st hA hgi fun w2 N2 st => ?_
  generalize IntKind.i64.wrap (gs[i].1.n - 1) = n1 at st
  have hil1 : i < (gs.set i (((⟨n1, gs[i].1.l, gs[i].1.k⟩ : PC), gs[i].2) : GC)).length := by simpa using hil
  replace st : Stt w (cowCh a gs) (cowCh a (gs.set i (((⟨n1, gs[i].1.l, gs[i].1.k⟩ : PC), gs[i].2) : GC)) ++ []) w2 N2 := st
  have hg1 : (gs.set i (((⟨n1, gs[i].1.l, gs[i].1.k⟩ : PC), gs[i].2) : GC))[i]? = some (((⟨n1, gs[i].1.l, gs[i].1.k⟩ : PC), gs[i].2) : GC) := List.getElem?_set_self hil
  have hs1 : Sub (pcs gs) (pcs (gs.set i (((⟨n1, gs[i].1.l, gs[i].1.k⟩ : PC), gs[i].2) : GC))) := by
    rw [pcs_set]; exact Sub.set (.inl hkn.symm)
  refine t_idx' (i * 3) hA (by omega) hlt (by simp) ?_
  refine t_ldc (x := n1) st (fun w' N' st => cow_c0 st hA hg1) fun w2 N2 st => ?_
  refine t_ite (fun h2 => ?_) (fun h2 => ?_)
  · exact hR (a, b, L) _ _ _ _ (st.eq (List.append_nil _)) ⟨rfl, _, hs1, rfl⟩ rfl
  refine t_idx' (i * 3) hA (by omega) hlt (by simp) ?_
  refine t_ldc (x := gs[i].2) st (fun w' N' st => cow_c2 (g := (((⟨n1, gs[i].1.l, gs[i].1.k⟩ : PC), gs[i].2) : GC)) st hA hg1) fun w2 N2 st => ?_
  refine t_idx' (i * 3) hA (by omega) hlt (by simp) ?_
  refine t_clr st hA hg1 fun w2 N2 st => ?_
  rw [List.set_set] at st
  have hs2 : Sub (pcs gs) (pcs (gs.set i (noP, Sl.nil))) := by rw [pcs_set]; exact Sub.set (.inr rfl)
  have hl2 : (gs.set i ((noP, Sl.nil) : GC)).length = gs.length := by simp
  have hks : ∀ x ∈ gs[i].1.k, DropSpec lv x cs := by
    intro x hx
    rw [← hkn] at hx
    rcases hsub.2 i with e | e
    · rw [e] at hx; exact hrec (by omega) x (by simpa using hx)
    · rw [e] at hx; simp at hx
  have hk4 : gs[i].1.k.length ≤ 4 := by
    rw [← hkn]
    rcases hsub.2 i with e | e
    · rw [e]; exact hkl i
    · rw [e]; simp
  generalize gs.set i ((noP, Sl.nil) : GC) = gs1 at *
  generalize gs[i].1.k = ks at *
  generalize gs[i].2 = ksl at *
  have hn : ksl.n = ks.length := by have := (st.own.ok ⟨3, 1, ksl, ints ks⟩ (by simp)).rd.n1; simpa using this
  refine t_loop (fun (p : Nat × List GC) (q : Int × Sl × Sl × Int) => q = ((p.1 : Int), a, b, L) ∧ p.1 ≤ ks.length ∧ Sub (pcs gs) (pcs p.2)) (fun p _ => cowCh a p.2 ++ [⟨3, 1, ksl, ints ks⟩]) (fun p _ => ks.length - p.1) (0, gs1) st ⟨rfl, Nat.zero_le _, hs2⟩ ?_
  rintro ⟨j, gs2⟩ q w2 N2 next ⟨rfl, hj, hs⟩ st hn2
  simp only at hj hs st hn2
  show f63_spec_l14Drop.L1 R ksl (j : Int) a b L _ w2 N2
  unfold f63_spec_l14Drop.L1
  refine t_ite (fun h3 => ?_) (fun h3 => ?_)
  · have hjl : j < ks.length := by simp [hn] at h3; exact h3
    have hrow : (⟨3, 1, ksl, ints ks⟩ : Ch) ∈ cowCh a gs2 ++ [⟨3, 1, ksl, ints ks⟩] := by simp
    obtain ⟨kd, hK, _⟩ := (st.own.ok _ hrow).rd.addr (i := j) (by simp only; omega)
    simp only at hK
    refine t_idx' j hK (by omega) (by omega) (by simp) ?_
    refine t_ldc (x := ks[j]) st (fun w' N' st => cellm st hrow hK (ints_at (by simp [hjl]))) fun w2 N2 st => ?_
    refine t_call (cs := cowCh a gs2) (rest := [⟨3, 1, ksl, ints ks⟩]) st (fun o => hks ks[j] (List.getElem_mem hjl) w2 a b gs2 L (hsub.trans hs) (by have := hs.1; simp only [pcs_len] at this; omega) o) fun y cs1 w2 N2 hp st => ?_
    obtain ⟨rfl, gs3, hs3, rfl⟩ := hp
    show next _ _ _
    rw [w64s (by simp only [maxLen]; omega)]
    exact hn2 (j + 1, gs3) _ _ _ ⟨rfl, hjl, hs.trans hs3⟩ (by simp only; omega) st
  · exact hR (a, b, L) _ _ _ _ st.left ⟨rfl, gs2, hs, rfl⟩ rfl
theorem drop_ok {lv : Nat → Int} {cs : List PC} (hkl : ∀ j, (kidsN cs j).length ≤ 4) (hl : Lab cs lv) : ∀ (m : Nat) (k : Int), k < cs.length → (k < 0 ∨ lv k.toNat ≤ m) → DropSpec lv k cs
  | 0, k, hk, hm => by
    refine drop_step hkl hk fun h0 x hx => ?_
    rcases hl _ x hx with h1 | ⟨_, _, h1⟩
    · exact drop_step hkl (by omega) fun h2 => by omega
    · omega
  | m + 1, k, hk, hm => by
    refine drop_step hkl hk fun h0 x hx => ?_
    rcases hl _ x hx with h1 | ⟨h2, h3, _⟩
    · exact drop_ok hkl hl m x (by omega) (.inl h1)
    · exact drop_ok hkl hl m x h2 (.inr (by omega))
theorem Gd.lab {cs : List PC} {rs : List Int} {L : Int} {lv : Nat → Int} (g : Gd cs rs L lv) : Lab cs lv := by
  intro j x hx
  by_cases hj : j < cs.length
  · by_cases hn : (cAt cs j).n = 0
    · have := (g.E j hj hn).2
      unfold kidsN at hx; rw [this] at hx; simp at hx
    · rcases (g.K j hj hn).kids hx with h | ⟨_, h2, h3, h4⟩
      · exact .inl (by omega)
      · exact .inr ⟨h2, h3, by omega⟩
  · simp [kidsN, cAt, hj, noP] at hx
theorem rd_cut {w : World} {s : Sl} {xs : List Value} (h : Rd w 1 s xs) (l hh m : Nat) (h1 : l ≤ hh) (h2 : hh ≤ s.n) (h3 : hh ≤ m) : Rd w 1 (s.cut 1 l hh m) ((xs.drop l).take (hh - l)) := by
  obtain ⟨a, b, c⟩ := h
  rw [Nat.mul_one] at a
  have hlen : ((xs.drop l).take (hh - l)).length = hh - l := by rw [List.length_take, List.length_drop]; omega
  unfold Sl.cut
  refine ⟨by simp only [hlen, Nat.mul_one], by simp only; omega, ?_⟩
  by_cases hz : hh - l = 0
  · exact .inl hz
  · refine .inr ?_
    rcases c with c | ⟨ad, hA, hc⟩
    · omega
    · rw [if_neg (by omega), hA]
      refine ⟨_, rfl, fun j v hj => ?_⟩
      rw [Addr.add_add, Nat.mul_one]
      refine hc _ _ ?_
      rw [List.getElem?_take] at hj
      split at hj
      · rwa [List.getElem?_drop] at hj
      · cases hj
theorem DropPicture_ok {w : World} {a b : Sl} {gs : List GC} {rs : List Int} {L root : Int} (h : RW w a b gs rs) (hkl : ∀ g ∈ gs, g.1.k.length ≤ 1048576) :
    Calls Try.prog 49 #[.agg #[Sl.v a, Sl.v b, .int .i64 L], .int .i64 root] w fun e w' => ∃ (y : Sl × Sl × Int × Bool) (cs1 : List Ch), e = .returned (tupB y) ∧ shPost L y cs1 ∧ Res w [] w' cs1 := by
  have hnb : b.n = rs.length := by simpa using h.r.n1
  have hna := h.c.n
  have hbm := h.r.2.1
  refine run_ok (fun R => f49_spec_DropPicture.ok R a b L root w) [] (Own.nil w NO) tupB (fun y cs1 => shPost L y cs1) fun R hR w1 N1 st => ?_
  have hno1 : ∀ {cs w' N'}, Stt w [] cs w' N' → f49_spec_DropPicture.J1 R a b L root true w' N' := by
    intro cs w' N' st
    unfold f49_spec_DropPicture.J1
    exact t_itet rfl (hR (Sl.nil, Sl.nil, 0, false) [] _ _ _ (st.sub (List.nil_sublist _)) (.inl ⟨rfl, rfl⟩) rfl)
  unfold f49_spec_DropPicture.T
  refine t_callp st (goodS_ok' (h.st st) hkl) fun w2 N2 st => ?_
  refine t_ite (fun h1 => hno1 st) (fun h1 => ?_)
  have hg : goodI (pcs gs) rs L = true := by simpa using h1
  obtain ⟨hrg, lv, gd⟩ := goodI_iff.1 hg
  obtain ⟨hL, hc80, hr1, hr8⟩ := rng_iff.1 hrg
  rw [pcs_len] at hc80
  rw [w64i (by omega) (by omega)]
  refine t_callp st (l1In_ok _ _ _) fun w2 N2 st => ?_
  refine t_ite (fun h2 => hno1 st) (fun h2 => ?_)
  have hroot : 0 ≤ root ∧ root ≤ (b.n : Int) - 1 := by simpa using h2
  obtain ⟨q, rfl⟩ : ∃ q : Nat, root = (q : Int) := ⟨root.toNat, by omega⟩
  have hq : q < rs.length := by omega
  by_cases h8 : rs.length = 1
  · rw [hnb, h8]; exact hno1 st
  have e8 : ((b.n : Int) == 1) = false := by simp [hnb]; omega
  rw [e8]
  unfold f49_spec_DropPicture.J1
  refine t_itef rfl ?_
  obtain ⟨bd, hB, hbc⟩ := h.r.addr (i := q) (by omega)
  refine t_idx' q hB (by omega) (by omega) (by simp) ?_
  refine t_ldc (x := rs[q]) st (fun w' N' s => s.old0 (hbc q _ (ints_at (by simp [hq])))) fun w2 N2 st => ?_
  refine t_call (cs := []) (rest := []) st (fun _ => l14Own_ok (h.st st) (by omega) (by omega) hkl) fun y cs1 w2 N2 hp st => ?_
  obtain ⟨gs', hy, hgs, hyn, rfl⟩ := hp
  obtain ⟨a', b', L'⟩ := y
  simp only at hy hyn st
  subst hy
  simp only
  replace st := st.eq (List.append_nil _)
  refine t_chk st (fun w' N' s => s.old0 (hbc q _ (ints_at (by simp [hq])))) fun w2 N2 st => ?_
  have hlen := congrArg List.length hgs
  simp only [pcs_len] at hlen
  have hk4 : ∀ j, (kidsN (pcs gs) j).length ≤ 4 := by
    intro j
    by_cases hj : j < (pcs gs).length
    · exact gd.wi.kl _ (by unfold cAt; rw [List.getD_eq_getElem?_getD, List.getElem?_eq_getElem hj]; exact List.getElem_mem hj)
    · have : kidsN (pcs gs) j = [] := by
        unfold kidsN cAt
        rw [List.getD_eq_getElem?_getD, List.getElem?_eq_none (by omega)]; rfl
      rw [this]; simp
  have hrq : rs[q] < (pcs gs).length ∧ (rs[q] < 0 ∨ lv rs[q].toNat ≤ (3 : Nat)) := by
    rcases gd.R rs[q] (List.getElem_mem hq) with h4 | ⟨_, h5, h6⟩
    · exact ⟨by omega, .inl (by omega)⟩
    · exact ⟨h5, .inr (by omega)⟩
  refine t_call (cs := cowCh a' gs') (rest := [⟨3, 1, b', ints rs⟩]) (st.eq (by simp [cowO])) (fun o => drop_ok hk4 gd.lab 3 rs[q] hrq.1 hrq.2 w2 a' b' gs' L' (by rw [hgs]; exact Sub.refl _) (by omega) o) fun y cs1 w2 N2 hp st => ?_
  obtain ⟨rfl, gs2, hs2, rfl⟩ := hp
  simp only
  have hrow : (⟨3, 1, b', ints rs⟩ : Ch) ∈ cowCh a' gs2 ++ [⟨3, 1, b', ints rs⟩] := by simp
  have hok := st.own.ok _ hrow
  have hcap := hok.2.1
  have hcapm := hok.2.2.1
  simp only at hcap hcapm
  simp only [maxLen] at hcapm
  refine t_ass (by omega) ?_
  rw [w64i (by omega) (by omega)]
  refine t_ass (by omega) ?_
  refine t_new 1 0 rfl (by decide) st fun g2 w2 N2 st => ?_
  have hrd : Rd w2 1 b' (ints rs) := (st.own.ok ⟨3, 1, b', ints rs⟩ (by simp)).rd
  refine t_app τ24 (i := 0) (xs := []) st rfl (rd_cut hrd (0 : Int).toNat (q : Int).toNat (b'.c : Int).toNat (by omega) (by omega) (by omega)) ?_ ?_ fun s2 w2 N2 hs3 st => ?_
  · intro u hu
    exact ints_one rs u (List.mem_of_mem_drop (List.mem_of_mem_take hu))
  · unfold Sl.cut; simp only; omega
  rw [List.set_cons_zero] at st
  have hrd : Rd w2 1 b' (ints rs) := (st.own.ok ⟨3, 1, b', ints rs⟩ (by simp)).rd
  have hs3 : s2.n = q := by rw [hs3]; unfold Sl.cut; simp only; omega
  refine t_app τ24 (i := 0) st rfl (rd_cut hrd ((q : Int) + 1).toNat (b'.n : Int).toNat (b'.c : Int).toNat (by omega) (by omega) (by omega)) ?_ ?_ fun s4 w2 N2 hs4 st => ?_
  · intro u hu
    exact ints_one rs u (List.mem_of_mem_drop (List.mem_of_mem_take hu))
  · unfold Sl.cut; simp only; omega
  rw [List.set_cons_zero] at st
  have hxs : ([] : List Value) ++ ((ints rs).drop (0 : Int).toNat).take ((q : Int).toNat - (0 : Int).toNat) ++ ((ints rs).drop ((q : Int) + 1).toNat).take ((b'.n : Int).toNat - ((q : Int) + 1).toNat) = ints (rs.eraseIdx q) := by
    rw [List.eraseIdx_eq_take_drop_succ]
    have e1 : ((q : Int) + 1).toNat = q + 1 := by omega
    have e2 : (b'.n : Int).toNat = rs.length := by omega
    simp only [ints, e1, e2, Int.toNat_natCast, List.nil_append, List.map_append, List.map_take, List.map_drop]
    congr 1
    exact List.take_of_length_le (by simp)
  rw [hxs] at st
  replace st : Stt w [] (cowO a' s4 gs2 (rs.eraseIdx q)) w2 N2 := by
    refine (st.sub (cs' := [⟨3, 1, s4, ints (rs.eraseIdx q)⟩] ++ cowCh a' gs2) ?_).perm List.perm_append_comm
    exact List.Sublist.cons_cons _ (List.sublist_append_left _ _)
  refine hR (a', s4, L', true) _ _ _ _ st (.inr ⟨gs2, _, ⟨?_, ?_, fun g hg => ?_⟩, rfl, rfl⟩) rfl
  · have := hs2.1; simp only [pcs_len] at this; omega
  · rw [List.length_eraseIdx_of_lt hq]; omega
  · obtain ⟨j, hj, rfl⟩ := List.getElem_of_mem hg
    have e : kidsN (pcs gs2) j = gs2[j].1.k := by unfold kidsN cAt; rw [pcs_getD hj]
    rw [← e]
    rcases hs2.2 j with e2 | e2
    · rw [e2, hgs]; exact hk4 j
    · rw [e2]; simp
end Go.Proofs.Ytboccoihmginiaa

namespace Go.Proofs.Ytboccoihmginiaa
open Go.RowKit Go.Sol
set_option linter.unusedVariables false
set_option linter.unusedSimpArgs false
section
variable {w0 w : World} {cs0 rest : List Ch} {N : NP} {g : Nat} {a : Sl} {bs : List Int} {at_ seed : Int}
theorem t_pick {K : Int → Tm} {n : Int} (hC : ∀ {w' : World} {N' : NP} {cs : List Ch}, Stt w0 cs0 cs w' N' → CurOk w' g a bs) (st : Stt w0 cs0 (rest ++ [curCh g a at_ seed]) w N) (h0 : 0 ≤ at_) (h1 : at_ ≤ 1000000)
    (k1 : ∀ y at2 s2 w' N', 0 ≤ y → (n ≤ 1 → y = 0) → (1 < n → y < n) → 0 ≤ at2 → at2 ≤ at_ + 2 → Stt w0 cs0 (rest ++ [curCh g a at2 s2]) w' N' → K y w' N') :
    T.call Try.prog 19 [.pointer (some ⟨g, 0, none⟩), .int .i64 n] (Value.int .i64) K w N := by
  refine t_call (cs := [curCh g a at_ seed]) (rest := rest) (st.perm List.perm_append_comm) (fun o => pick_ok (hC st) o h0 (by omega)) fun y cs1 w2 N2 hp st => ?_
  obtain ⟨⟨hy0, hy1, hy2⟩, at2, s2, ha, hb, rfl⟩ := hp
  exact k1 y at2 s2 _ _ hy0 hy1 hy2 ha hb (st.perm List.perm_append_comm)
theorem t_of {K : ByteArray → Tm} {s : Sl} {xs : List ByteArray} (hC : ∀ {w' : World} {N' : NP} {cs : List Ch}, Stt w0 cs0 cs w' N' → CurOk w' g a bs) (st : Stt w0 cs0 (rest ++ [curCh g a at_ seed]) w N) (hr : (⟨9, 1, s, strs xs⟩ : Ch) ∈ rest) (hx : 1 ≤ xs.length) (h0 : 0 ≤ at_) (h1 : at_ ≤ 1000000)
    (k1 : ∀ y at2 s2 w' N', y ∈ xs → 0 ≤ at2 → at2 ≤ at_ + 2 → Stt w0 cs0 (rest ++ [curCh g a at2 s2]) w' N' → K y w' N') :
    T.call Try.prog 20 [.pointer (some ⟨g, 0, none⟩), Sl.v s] Value.string K w N := by
  have st2 := st.perm (cs' := [curCh g a at_ seed] ++ rest) List.perm_append_comm
  have hrd := (st2.own.ok _ (List.mem_append_right _ hr)).rd
  have hap := Own.apt st2.own hr
  rw [cur_fps] at hap
  refine t_call (cs := [curCh g a at_ seed]) (rest := rest) st2 (fun o => of_ok (hC st2) hrd hap hx o h0 (by omega)) fun y cs1 w2 N2 hp st => ?_
  obtain ⟨hy, at2, s2, ha, hb, rfl⟩ := hp
  exact k1 y at2 s2 _ _ hy ha hb (st.perm List.perm_append_comm)
end
/-- a state drawn, behind its cursor -/
def drawPost (g : Nat) (a : Sl) (at_ : Int) (y : Sl × Sl × Int) (cs1 : List Ch) : Prop := ∃ gs rs at2 s2, Shp gs rs ∧ 0 ≤ at2 ∧ at2 ≤ at_ + 1000 ∧ cs1 = cowO y.1 y.2.1 gs rs ++ [curCh g a at2 s2]
theorem cow_ok {w : World} {g : Nat} {a : Sl} {bs : List Int} {at_ seed : Int} (h : CurOk w g a bs) (o : Own w NO [curCh g a at_ seed]) (h0 : 0 ≤ at_) (h1 : at_ ≤ 100000) :
    Calls Try.prog 18 #[.pointer (some ⟨g, 0, none⟩)] w fun e w' => ∃ (y : Sl × Sl × Int) (cs1 : List Ch), e = .returned (tup3 y) ∧ drawPost g a at_ y cs1 ∧ Res w [curCh g a at_ seed] w' cs1 := by
  refine run_ok (fun R => f18_spec_l1Cur_cow.ok R _ w) _ o tup3 (fun y cs1 => drawPost g a at_ y cs1) fun R hR w1 N1 st => ?_
  have hC : ∀ {w' : World} {N' : NP} {cs : List Ch}, Stt w [curCh g a at_ seed] cs w' N' → CurOk w' g a bs := fun st => h.st st (cur_fps g a at_ seed)
  unfold f18_spec_l1Cur_cow.T
  refine t_pick (rest := []) hC st h0 (by omega) fun y9 at1 s1 w2 N2 hy0 hy1 hy2 ha1 hb1 st => ?_
  have hy2 := hy2 (by omega)
  rw [w64i (by omega) (by omega)]
  refine t_call (cs := []) (rest := [curCh g a at1 s1]) st (fun _ => NewCow_ok (1 + y9)) fun y cs1 w2 N2 hp st => ?_
  obtain ⟨b0, rfl, rfl⟩ := hp.1 (by omega)
  simp only
  refine t_pick (rest := cowO Sl.nil b0 [] [-1]) hC st ha1 (by omega) fun y19 at2 s2 w2 N2 hm0 hm1 hm2 ha2 hb2 st => ?_
  have hm2 := hm2 (by omega)
  obtain ⟨m0, rfl⟩ : ∃ m : Nat, y19 = (m : Int) := ⟨y19.toNat, by omega⟩
  refine t_loop (fun (p : Nat × Sl × Sl × Nat × List GC × List Int × Int × Int) (q : Int × Sl × Sl × Int) => q = ((p.1 : Int), p.2.1, p.2.2.1, (p.2.2.2.1 : Int)) ∧ p.1 ≤ 15 ∧ (1 ≤ p.2.2.2.1 ∧ p.2.2.2.1 ≤ 3) ∧ Shp p.2.2.2.2.1 p.2.2.2.2.2.1 ∧ 0 ≤ p.2.2.2.2.2.2.1 ∧ p.2.2.2.2.2.2.1 ≤ at_ + 4 + (15 - (p.1 : Int)) * 10)
    (fun p _ => cowO p.2.1 p.2.2.1 p.2.2.2.2.1 p.2.2.2.2.2.1 ++ [curCh g a p.2.2.2.2.2.2.1 p.2.2.2.2.2.2.2]) (fun p _ => p.1) (m0, Sl.nil, b0, (1 + y9).toNat, [], [-1], at2, s2) st ⟨?_, by simp only; omega, by simp only; omega, ⟨by simp, by simp, fun g hg => by simp at hg⟩, by simp only; omega, by simp only; omega⟩ ?_
  · simp only [Prod.mk.injEq, true_and]; omega
  rintro ⟨m, a', b', l, gs, rs, at3, s3⟩ q w2 N2 next ⟨rfl, hm, hl, hsh, ha3, hb3⟩ st hn
  simp only at hm hl hsh ha3 hb3 st hn
  show f18_spec_l1Cur_cow.L1 R (some ⟨g, 0, none⟩) (m : Int) a' b' (l : Int) _ w2 N2
  unfold f18_spec_l1Cur_cow.L1
  have rwo : ∀ {w' N' x}, Stt w [curCh g a at_ seed] (cowO a' b' gs rs ++ x) w' N' → RW w' a' b' gs rs := fun st => Own_rw st.own
  refine t_ite (fun h2 => ?_) (fun h2 => ?_)
  · have hm1 : 1 ≤ m := by simp at h2; omega
    refine t_pick hC st ha3 (by omega) fun y50 at4 s4 w2 N2 hr0 hr1 hr2 ha4 hb4 st => ?_
    refine t_pick hC st ha4 (by omega) fun y57 at5 s5 w2 N2 ho0 ho1 ho2 ha5 hb5 st => ?_
    -- the end of a round
    have fin : ∀ (y : Sl × Sl × Int × Bool) (cs1 : List Ch) (at6 s6 : Int) (extra : List Ch), shPost (l : Int) y cs1 → 0 ≤ at6 → at6 ≤ at5 + 4 → ∀ {w2 N2}, Stt w [curCh g a at_ seed] (cs1 ++ (extra ++ (cowO a' b' gs rs ++ [curCh g a at6 s6]))) w2 N2 →
        f18_spec_l1Cur_cow.J3 R (fun (z0 : Int) (z1 : Sl) (z2 : Sl) (z3 : Int) => next (z0, z1, z2, z3)) (m : Int) a' b' (l : Int) y.2.2.2 y.1 y.2.1 y.2.2.1 w2 N2 := by
      intro y cs1 at6 s6 extra hp ha6 hb6 w2 N2 st
      unfold f18_spec_l1Cur_cow.J3 f18_spec_l1Cur_cow.J2
      rw [w64i (by omega) (by omega)]
      rcases hp with ⟨rfl, rfl⟩ | ⟨gs2, rs2, hs2, hy, rfl⟩
      · refine t_itef rfl ?_
        refine hn (m - 1, a', b', l, gs, rs, at6, s6) _ _ _ ⟨?_, by simp only; omega, hl, hsh, ha6, by simp only; omega⟩ (by simp only; omega) (st.sub ?_)
        · simp only [Prod.mk.injEq, true_and, and_true]; omega
        · exact (List.sublist_append_right _ _).trans (List.sublist_append_right _ _)
      · obtain ⟨y1, y2, y3, y4⟩ := y
        simp only [Prod.mk.injEq] at hy
        obtain ⟨rfl, rfl⟩ := hy
        refine t_itet rfl ?_
        refine hn (m - 1, y1, y2, l, gs2, rs2, at6, s6) _ _ _ ⟨?_, by simp only; omega, hl, hs2, ha6, by simp only; omega⟩ (by simp only; omega) (st.sub ?_)
        · simp only [Prod.mk.injEq, true_and, and_true]; omega
        · exact List.Sublist.append (List.Sublist.refl _) ((List.sublist_append_right _ _).trans (List.sublist_append_right _ _))
    refine t_ite (fun h3 => ?_) (fun h3 => ?_)
    · refine t_call (cs := []) (rest := cowO a' b' gs rs ++ [curCh g a at5 s5]) st (fun _ => TakePicture_ok (rwo (x := [curCh g a at5 s5]) st) hsh.kl) fun y cs1 w2 N2 hp st => ?_
      exact fin y cs1 at5 s5 [] hp ha5 (by omega) st
    refine t_ite (fun h4 => ?_) (fun h4 => ?_)
    · refine t_call (cs := []) (rest := cowO a' b' gs rs ++ [curCh g a at5 s5]) st (fun _ => DropPicture_ok (rwo (x := [curCh g a at5 s5]) st) hsh.kl) fun y cs1 w2 N2 hp st => ?_
      exact fin y cs1 at5 s5 [] hp ha5 (by omega) st
    · refine t_callq st (fun w' N' s => l14Places_ok a' b' hl.1 hl.2) fun w2 N2 st => ?_
      refine t_pick hC st ha5 (by omega) fun y79 at6 s6 w2 N2 hp0 hp1 hp2 ha6 hb6 st => ?_
      refine t_new 1 5 rfl (by decide) st fun g85 w2 N2 st => ?_
      have hstr : (#[Value.string (⟨#[97]⟩ : ByteArray), .string (⟨#[98]⟩ : ByteArray), .string (⟨#[]⟩ : ByteArray), .string (⟨#[108, 101, 97, 102]⟩ : ByteArray), .string (⟨#[99]⟩ : ByteArray)] : Array Value).toList = strs [⟨#[97]⟩, ⟨#[98]⟩, ⟨#[]⟩, ⟨#[108, 101, 97, 102]⟩, ⟨#[99]⟩] := rfl
      rw [hstr] at st
      replace st : Stt w [curCh g a at_ seed] (([⟨9, 1, ⟨some ⟨g85, 0, none⟩, 5, 5⟩, strs [⟨#[97]⟩, ⟨#[98]⟩, ⟨#[]⟩, ⟨#[108, 101, 97, 102]⟩, ⟨#[99]⟩]⟩] ++ cowO a' b' gs rs) ++ [curCh g a at6 s6]) w2 N2 := st
      refine t_of (xs := [⟨#[97]⟩, ⟨#[98]⟩, ⟨#[]⟩, ⟨#[108, 101, 97, 102]⟩, ⟨#[99]⟩]) hC st (by simp) (by simp) ha6 (by omega) fun y86 at7 s7 w2 N2 hmem ha7 hb7 st => ?_
      replace st : Stt w [curCh g a at_ seed] ([⟨9, 1, ⟨some ⟨g85, 0, none⟩, 5, 5⟩, strs [⟨#[97]⟩, ⟨#[98]⟩, ⟨#[]⟩, ⟨#[108, 101, 97, 102]⟩, ⟨#[99]⟩]⟩] ++ (cowO a' b' gs rs ++ [curCh g a at7 s7])) w2 N2 := st
      refine t_call (cs := []) st (fun _ => PutLeafS_ok (rwo (x := [curCh g a at7 s7]) (st.sub (List.sublist_append_right _ _))) hsh.kl) fun y cs1 w2 N2 hp st => ?_
      exact fin y cs1 at7 s7 [⟨9, 1, ⟨some ⟨g85, 0, none⟩, 5, 5⟩, strs [⟨#[97]⟩, ⟨#[98]⟩, ⟨#[]⟩, ⟨#[108, 101, 97, 102]⟩, ⟨#[99]⟩]⟩] (plPost_sh hp) ha7 (by omega) st
  · have hlast : ∀ (L2 : Int) (gs2 : List GC) (rs2 : List Int) (at6 s6 : Int), Shp gs2 rs2 → 0 ≤ at6 → at6 ≤ at3 + 4 → ∀ {w2 N2}, Stt w [curCh g a at_ seed] (cowO a' b' gs2 rs2 ++ [curCh g a at6 s6]) w2 N2 → f18_spec_l1Cur_cow.J4 R a' b' L2 w2 N2 := by
      intro L2 gs2 rs2 at6 s6 hs2 ha6 hb6 w2 N2 st
      unfold f18_spec_l1Cur_cow.J4
      exact hR (a', b', L2) _ _ _ _ st ⟨gs2, rs2, at6, s6, hs2, ha6, by omega, rfl⟩ rfl
    refine t_pick hC st ha3 (by omega) fun y108 at4 s4 w2 N2 hr0 hr1 hr2 ha4 hb4 st => ?_
    refine t_ite (fun h3 => ?_) (fun h3 => ?_)
    · refine t_ite (fun h4 => ?_) (fun h4 => ?_)
      · have hna := (rwo (x := [curCh g a at4 s4]) st).c.n
        have hg1 : 1 ≤ gs.length := by simp [hna] at h4; omega
        refine t_pick hC st ha4 (by omega) fun y126 at5 s5 w2 N2 hx0 hx1 hx2 ha5 hb5 st => ?_
        obtain ⟨x, rfl⟩ : ∃ x : Nat, y126 = (x : Int) := ⟨y126.toNat, by omega⟩
        have hxl : x < gs.length := by
          by_cases h5 : (a'.n : Int) ≤ 1
          · have := hx1 h5; omega
          · have := hx2 (by omega); omega
        have hgx : gs[x]? = some gs[x] := List.getElem?_eq_getElem hxl
        replace st : Stt w [curCh g a at_ seed] (cowCh a' gs ++ ([⟨3, 1, b', ints rs⟩] ++ [curCh g a at5 s5])) w2 N2 := st.eq (by simp [cowO])
        obtain ⟨ad, hA, hlt⟩ := cow_ad st hxl
        refine t_idx' (x * 3) hA (by omega) hlt (by simp) ?_
        refine t_ldc (x := gs[x].1.n) st (fun w' N' st => cow_c0 st hA hgx) fun w2 N2 st => ?_
        refine t_idx' (x * 3) hA (by omega) hlt (by simp) ?_
        refine t_c0 st hA hgx fun w2 N2 st => ?_
        refine hlast _ (gs.set x (((⟨IntKind.i64.wrap (gs[x].1.n + 1), gs[x].1.l, gs[x].1.k⟩ : PC), gs[x].2) : GC)) rs at5 s5 ⟨by simpa using hsh.1, hsh.2.1, fun c hc => ?_⟩ ha5 (by omega) (st.eq (by simp [cowO]))
        rcases List.mem_or_eq_of_mem_set hc with hc | rfl
        · exact hsh.2.2 c hc
        · exact hsh.2.2 gs[x] (List.getElem_mem hxl)
      · exact hlast _ gs rs at4 s4 hsh ha4 (by omega) st
    refine t_ite (fun h4 => ?_) (fun h4 => ?_)
    · refine t_pick hC st ha4 (by omega) fun y144 at5 s5 w2 N2 hx0 hx1 hx2 ha5 hb5 st => ?_
      replace st : Stt w [curCh g a at_ seed] (cowCh a' gs ++ (⟨3, 1, b', ints rs⟩ :: [curCh g a at5 s5])) w2 N2 := st.eq (by simp [cowO])
      have hrl := hsh.2.1.1
      have hrd := (st.own.ok ⟨3, 1, b', ints rs⟩ (by simp)).rd
      have hbn : b'.n = rs.length := by simpa using hrd.n1
      obtain ⟨bd, hB, _⟩ := hrd.addr (i := 0) (by simp only; omega)
      simp only at hB
      refine t_idx' 0 hB (by omega) (by omega) (by simp) ?_
      refine t_stcm (l1 := cowCh a' gs) (l2 := [curCh g a at5 s5]) (c := ⟨3, 1, b', ints rs⟩) (j := 0) st hB (by simp; omega) rfl fun w2 N2 st => ?_
      refine hlast _ gs (rs.set 0 (IntKind.i64.wrap (y144 - 2))) at5 s5 ⟨hsh.1, by simpa using hsh.2.1, hsh.2.2⟩ ha5 (by omega) (st.eq ?_)
      simp [cowO, ints]
    refine t_ite (fun h5 => ?_) (fun h5 => ?_)
    · refine t_pick hC st ha4 (by omega) fun y153 at5 s5 w2 N2 hx0 hx1 hx2 ha5 hb5 st => ?_
      exact hlast _ gs rs at5 s5 hsh ha5 (by omega) st
    · exact hlast _ gs rs at4 s4 hsh ha4 (by omega) st
abbrev tupD : Sl × Sl × Int × Int × Int × ByteArray → Value := fun z => .tuple #[.agg #[Sl.v z.1, Sl.v z.2.1, .int .i64 z.2.2.1], .int .i64 z.2.2.2.1, .int .i64 z.2.2.2.2.1, .string z.2.2.2.2.2]
theorem DrawPutLeaf_ok {w : World} {a : Sl} {bs : List Int} (hr : Rd w 1 a (u8s bs)) (hb : ∀ x ∈ bs, 0 ≤ x ∧ x ≤ 255) :
    Calls Try.prog 5 #[Sl.v a] w fun e w' => ∃ (y : Sl × Sl × Int × Int × Int × ByteArray) (cs1 : List Ch), e = .returned (tupD y) ∧ (∃ gs rs, Shp gs rs ∧ cs1 = cowO y.1 y.2.1 gs rs) ∧ Res w [] w' cs1 := by
  refine run_ok (fun R => f5_spec_DrawPutLeaf.ok R a w) [] (Own.nil w NO) tupD (fun y cs1 => ∃ gs rs, Shp gs rs ∧ cs1 = cowO y.1 y.2.1 gs rs) fun R hR w1 N1 st => ?_
  unfold f5_spec_DrawPutLeaf.T
  refine t_new 3 1 rfl (by decide) st fun g w2 N2 st => ?_
  replace st : Stt w [] [curCh g a 0 0] w2 N2 := st
  have hg : w.heap.size ≤ g := by
    rcases st.src g (mem_fps.2 ⟨curCh g a 0 0, List.mem_singleton_self _, by simp [curCh, Sl.fp]⟩) with h1 | h1
    · simp [fps] at h1
    · exact h1
  have hC : ∀ {w' : World} {N' : NP} {cs : List Ch}, Stt w [] cs w' N' → CurOk w' g a bs := fun st => ⟨st.rd0 hr, hb, Rd.apt hr (by omega) fun b hb => by simp at hb; omega⟩
  refine t_call (cs := [curCh g a 0 0]) (rest := []) st (fun o => cow_ok (hC st) o (by omega) (by omega)) fun y cs1 w2 N2 hp st => ?_
  obtain ⟨gs, rs, at2, s2, hs, ha, hb2, rfl⟩ := hp
  obtain ⟨a', b', L⟩ := y
  simp only at st ⊢
  replace st := st.eq (List.append_nil _)
  refine t_pick hC st ha (by omega) fun y25 at3 s3 w2 N2 hx0 hx1 hx2 ha3 hb3 st => ?_
  refine t_pick hC st ha3 (by omega) fun y31 at4 s4 w2 N2 hx0 hx1 hx2 ha4 hb4 st => ?_
  refine t_new 1 5 rfl (by decide) st fun g37 w2 N2 st => ?_
  have hstr : (#[Value.string (⟨#[]⟩ : ByteArray), .string (⟨#[120]⟩ : ByteArray), .string (⟨#[97]⟩ : ByteArray), .string (⟨#[49, 50, 51, 52, 53, 54, 55, 56, 57]⟩ : ByteArray), .string (⟨#[49, 50, 51, 52, 53, 54, 55, 56]⟩ : ByteArray)] : Array Value).toList = strs [⟨#[]⟩, ⟨#[120]⟩, ⟨#[97]⟩, ⟨#[49, 50, 51, 52, 53, 54, 55, 56, 57]⟩, ⟨#[49, 50, 51, 52, 53, 54, 55, 56]⟩] := rfl
  rw [hstr] at st
  generalize hxs : ([⟨#[]⟩, ⟨#[120]⟩, ⟨#[97]⟩, ⟨#[49, 50, 51, 52, 53, 54, 55, 56, 57]⟩, ⟨#[49, 50, 51, 52, 53, 54, 55, 56]⟩] : List ByteArray) = xs at st
  have hxl : xs.length = 5 := by rw [← hxs]; rfl
  replace st : Stt w [] (([⟨9, 1, ⟨some ⟨g37, 0, none⟩, 5, 5⟩, strs xs⟩] ++ cowO a' b' gs rs) ++ [curCh g a at4 s4]) w2 N2 := st
  refine t_of (xs := xs) hC st (by simp) (by omega) ha4 (by omega) fun y38 at5 s5 w2 N2 hmem ha5 hb5 st => ?_
  refine hR (a', b', L, y25, y31, y38) _ _ _ _ (st.sub ?_) ⟨gs, rs, hs, rfl⟩ rfl
  exact (List.sublist_append_right _ _).trans (List.sublist_append_left _ _)
end Go.Proofs.Ytboccoihmginiaa
