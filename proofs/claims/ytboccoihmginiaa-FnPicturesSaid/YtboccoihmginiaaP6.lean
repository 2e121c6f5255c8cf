/-
Helper texts: Helper text: leaves of a root, a leaf, used cells. Helper text: pictures: what a put leaf changes. Helper text: FnPictures walked. No condition.
-/
import Derived.Test.YtboccoihmginiaaP5
namespace Go.Proofs.Ytboccoihmginiaa
open Go.RowKit Go.Sol
set_option linter.unusedVariables false
set_option linter.unusedSimpArgs false
theorem τ32 : TyE Try.prog 32 9 1 16 (.string ⟨#[]⟩) := ⟨by kernel_rfl, by kernel_rfl, rfl, by decide, by decide⟩
def leavesP (cs : List PC) (L root : Nat) (rs : List Int) : List ByteArray := (List.range (4 ^ (L - 1))).map fun a => leafP cs a L (rs.getD root 0)
theorem strs_one (xs : List ByteArray) : ∀ u ∈ strs xs, u.oneCell' = true := by
  intro u hu
  obtain ⟨x, _, rfl⟩ := List.mem_map.1 hu
  rfl
theorem LeavesOf_ok {w : World} {a b : Sl} {gs : List GC} {rs : List Int} {L root : Nat} (h : RW w a b gs rs) (hkl : ∀ g ∈ gs, g.1.k.length ≤ 1048576) (hg : goodI (pcs gs) rs L = true) (hq : root < rs.length) :
    Calls Try.prog 10 #[.agg #[Sl.v a, Sl.v b, .int .i64 L], .int .i64 root] w fun e w' => ∃ (y : Sl × Bool) (cs1 : List Ch), e = .returned (.tuple #[Sl.v y.1, .bool y.2]) ∧ (y.2 = true ∧ cs1 = [⟨9, 1, y.1, strs (leavesP (pcs gs) L root rs)⟩]) ∧ Res w [] w' cs1 := by
  refine run_ok (fun R => f10_impl_LeavesOf.ok R a b L root w) [] (Own.nil w NO) (fun (y : Sl × Bool) => .tuple #[Sl.v y.1, .bool y.2]) (fun y cs1 => y.2 = true ∧ cs1 = [⟨9, 1, y.1, strs (leavesP (pcs gs) L root rs)⟩]) fun R hR w1 N1 st => ?_
  unfold f10_impl_LeavesOf.T
  refine t_callp st (isRoot_ok (h.st st) hkl) fun w2 N2 st => ?_
  refine t_itef ?_ ?_
  · rw [hg, decide_eq_true (by omega)]; rfl
  obtain ⟨hL, hc80, hr1, hr8⟩ := rng_iff.1 (goodI_iff.1 hg).1
  refine t_new 1 0 rfl (by decide) st fun g21 w2 N2 st => ?_
  refine t_callp st (places_ok a b (lv := L) (by omega) (by omega)) fun w2 N2 st => ?_
  have hp4 : 4 ^ (L - 1) ≤ 4 ^ 3 := Nat.pow_le_pow_right (by omega) (by omega)
  have hp4 : 4 ^ (L - 1) ≤ 64 := hp4
  have hrq : rs.getD root 0 = rs[root] := by rw [List.getD_eq_getElem?_getD, List.getElem?_eq_getElem hq]; rfl
  refine t_loop (fun (p : Nat × Sl) (q : Sl × Int) => q = (p.2, (p.1 : Int)) ∧ p.1 ≤ 4 ^ (L - 1) ∧ p.2.n = p.1) (fun p _ => [⟨9, 1, p.2, strs ((List.range p.1).map fun a => leafP (pcs gs) a L (rs.getD root 0))⟩]) (fun p _ => 4 ^ (L - 1) - p.1) (0, ⟨some ⟨g21, 0, none⟩, 0, 0⟩) st ⟨rfl, Nat.zero_le _, rfl⟩ ?_
  rintro ⟨i, s⟩ q w2 N2 next ⟨rfl, hi, hsn⟩ st hn
  simp only at hi hsn st hn
  show f10_impl_LeavesOf.L1 R a b (L : Int) (root : Int) ((4 ^ (L - 1) : Nat) : Int) s (i : Int) _ w2 N2
  unfold f10_impl_LeavesOf.L1
  refine t_ite (fun h1 => ?_) (fun h1 => ?_)
  · have hil : i < 4 ^ (L - 1) := by simpa only [decide_eq_true_eq, Int.ofNat_lt] using h1
    have hpath := good_path (a := i) hg hq
    rw [hrq] at hpath
    refine t_callp st (leafAt_ok (h.st st) (by omega) (by omega) hq (by omega) hpath) fun w2 N2 st => ?_
    refine t_new 1 1 rfl (by decide) st fun g56 w2 N2 st => ?_
    have hsrc : Rd w2 1 ⟨some ⟨g56, 0, none⟩, 1, 1⟩ (strs [leafP (pcs gs) i L rs[root]]) := (st.ch (i := 0) rfl).rd
    refine t_app τ32 (i := 1) st rfl hsrc (strs_one _) (by simp only; omega) fun s2 w2 N2 hs2 st => ?_
    show next _ _ _
    rw [w64s (by simp only [maxLen]; omega)]
    refine hn (i + 1, s2) _ _ _ ⟨rfl, hil, by rw [hs2, hsn]⟩ (by simp only; omega) ((st.sub (List.sublist_cons_self _ _)).eq ?_)
    rw [← hrq]
    simp [List.range_succ, strs]
  · have hil : i = 4 ^ (L - 1) := by
      have : ¬ i < 4 ^ (L - 1) := fun h2 => by rw [decide_eq_true (by omega)] at h1; cases h1
      omega
    subst hil
    exact hR (s, true) _ _ _ _ st ⟨rfl, rfl⟩ rfl
theorem LeafAt_ok {w : World} {a b : Sl} {gs : List GC} {rs : List Int} {L root at_ : Nat} (h : RW w a b gs rs) (hkl : ∀ g ∈ gs, g.1.k.length ≤ 1048576) (hg : goodI (pcs gs) rs L = true) (hq : root < rs.length) (ha : at_ < 4 ^ (L - 1)) :
    Calls Try.prog 11 #[.agg #[Sl.v a, Sl.v b, .int .i64 L], .int .i64 root, .int .i64 at_] w fun e w' => e = .returned (.tuple #[.string (leafP (pcs gs) at_ L (rs.getD root 0)), .bool true]) ∧ Below w.heap.size w w' := by
  refine run_pure (fun R => f11_impl_LeafAt.ok R a b L root at_ w) fun R hR w1 N1 st => ?_
  unfold f11_impl_LeafAt.T
  refine t_callp st (isRoot_ok (h.st st) hkl) fun w2 N2 st => ?_
  refine t_itef ?_ ?_
  · rw [hg, decide_eq_true (by omega)]; rfl
  obtain ⟨hL, hc80, hr1, hr8⟩ := rng_iff.1 (goodI_iff.1 hg).1
  have hp4 : 4 ^ (L - 1) ≤ 4 ^ 3 := Nat.pow_le_pow_right (by omega) (by omega)
  have hp4 : 4 ^ (L - 1) ≤ 64 := hp4
  have hp0 : (0 : Int) ≤ ((4 ^ (L - 1) : Nat) : Int) := Int.natCast_nonneg _
  have hrq : rs.getD root 0 = rs[root] := by rw [List.getD_eq_getElem?_getD, List.getElem?_eq_getElem hq]; rfl
  refine t_callp st (places_ok a b (lv := L) (by omega) (by omega)) fun w2 N2 st => ?_
  rw [w64i (by omega) (by omega)]
  refine t_callp st (within_ok _ _ _) fun w2 N2 st => ?_
  rw [decide_eq_true (by omega)]
  unfold f11_impl_LeafAt.J1
  refine t_itef rfl ?_
  have hpath := good_path (a := at_) hg hq
  rw [hrq] at hpath
  refine t_callp st (leafAt_ok (h.st st) (by omega) (by omega) hq (by omega) hpath) fun w2 N2 st => ?_
  exact hR _ _ _ _ st (by rw [hrq])
def usedP (cs : List PC) : Nat := cs.countP fun c => decide (0 < c.n)
theorem UsedCells_ok {w : World} {a b : Sl} {gs : List GC} {rs : List Int} {L : Nat} (h : RW w a b gs rs) (hkl : ∀ g ∈ gs, g.1.k.length ≤ 1048576) (hg : goodI (pcs gs) rs L = true) :
    Calls Try.prog 12 #[.agg #[Sl.v a, Sl.v b, .int .i64 L]] w fun e w' => e = .returned (.tuple #[.int .i64 (usedP (pcs gs)), .bool true]) ∧ Below w.heap.size w w' := by
  have hna := h.c.n
  refine run_pure (fun R => f12_impl_UsedCells.ok R a b L w) fun R hR w1 N1 st => ?_
  unfold f12_impl_UsedCells.T
  refine t_callp st (goodI_ok (h.st st) hkl) fun w2 N2 st => ?_
  rw [hg]
  refine t_itef rfl ?_
  obtain ⟨hL, hc80, hr1, hr8⟩ := rng_iff.1 (goodI_iff.1 hg).1
  rw [pcs_len] at hc80
  refine t_loop (fun (i : Nat) (q : Int × Int) => q = ((usedP ((pcs gs).take i) : Int), (i : Int)) ∧ i ≤ gs.length) (fun _ _ => []) (fun i _ => gs.length - i) 0 st ⟨rfl, Nat.zero_le _⟩ ?_
  rintro i q w2 N2 next ⟨rfl, hi⟩ st hn
  show f12_impl_UsedCells.L1 R a _ (i : Int) _ w2 N2
  unfold f12_impl_UsedCells.L1
  refine t_ite (fun h1 => ?_) (fun h1 => ?_)
  · have hil : i < gs.length := by simp [hna] at h1; exact h1
    obtain ⟨ad, hA, _, c0, c1, c2, hrd⟩ := h.c.at hil
    refine t_idx' (i * 3) hA (by omega) (by omega) (by simp) ?_
    refine t_ldc st (fun w' N' s => s.old0 c0) fun w2 N2 st => ?_
    refine t_ldc st (fun w' N' s => s.old0 c1) fun w2 N2 st => ?_
    refine t_ldc st (fun w' N' s => s.old0 c2) fun w2 N2 st => ?_
    have hil2 : i < (pcs gs).length := by simpa using hil
    have hpi : (pcs gs)[i] = gs[i].1 := by simp [pcs]
    have htk : usedP ((pcs gs).take (i + 1)) = usedP ((pcs gs).take i) + if 0 < gs[i].1.n then 1 else 0 := by
      unfold usedP
      rw [List.take_succ_eq_append_getElem hil2, List.countP_append, List.countP_singleton, hpi]
      simp
    have hub : usedP ((pcs gs).take i) ≤ 80 := by
      have := List.countP_le_length (p := fun c : PC => decide (0 < c.n)) (l := (pcs gs).take i)
      rw [List.length_take] at this
      unfold usedP
      omega
    unfold f12_impl_UsedCells.J2
    refine t_ite (fun h2 => ?_) (fun h2 => ?_)
    · rw [w64s (by simp only [maxLen]; omega), w64s (by simp only [maxLen]; omega)]
      refine hn (i + 1) _ _ _ ⟨?_, hil⟩ (by omega) st
      rw [htk, if_pos (by simpa using h2)]
    · rw [w64s (by simp only [maxLen]; omega)]
      refine hn (i + 1) _ _ _ ⟨?_, hil⟩ (by omega) st
      rw [htk, if_neg (by simpa using h2)]; rfl
  · have hil : i = gs.length := by simp [hna] at h1; omega
    subst hil
    refine hR _ _ _ _ st ?_
    rw [List.take_of_length_le (by simp)]
end Go.Proofs.Ytboccoihmginiaa

namespace Go.Proofs.Ytboccoihmginiaa
open Go.RowKit Go.Sol
set_option linter.unusedVariables false
set_option linter.unusedSimpArgs false
theorem dig_eq {L a b : Nat} (h1 : 1 ≤ L) (h3 : L ≤ 3) (ha : a < 4 ^ (L - 1)) (hb : b < 4 ^ (L - 1)) : (∀ m, 2 ≤ m → m ≤ L → dig b m = dig a m) ↔ b = a := by
  constructor
  · intro h
    have hL : L = 1 ∨ L = 2 ∨ L = 3 := by omega
    rcases hL with rfl | rfl | rfl
    · simp at ha hb; omega
    · have h2 := h 2 (by omega) (by omega)
      unfold dig at h2
      simp at ha hb h2
      omega
    · have h2 := h 2 (by omega) (by omega)
      have h4 := h 3 (by omega) (by omega)
      unfold dig at h2 h4
      simp at ha hb h2 h4
      omega
  · rintro rfl m _ _; rfl
theorem usedP_eq {cs : List PC} (h : ∀ j, j < cs.length → 0 ≤ (cAt cs j).n) : usedP cs = (usedL cs).length := by
  have hm : cs = (List.range cs.length).map (cAt cs) := by
    apply List.ext_getElem
    · simp
    · intro i h1 h2
      simp [cAt, h1]
  unfold usedP usedL
  conv => lhs; rw [hm]
  rw [List.countP_map, ← List.countP_eq_length_filter]
  refine List.countP_congr fun j hj => ?_
  have := h j (by simpa using hj)
  simp only [Function.comp, decide_eq_true_eq]
  omega
theorem pict {cs : List PC} {rs : List Int} {L root a : Nat} {leaf : ByteArray} (h : goodI cs rs L = true) (hr : root < rs.length) (ha : a < 4 ^ (L - 1)) :
    (plRes cs rs L root a leaf).2.length = rs.length ∧ (∀ r, r < rs.length → ∀ b, b < 4 ^ (L - 1) → leafP (plRes cs rs L root a leaf).1 b L ((plRes cs rs L root a leaf).2.getD r 0) = if r = root ∧ b = a then leaf else leafP cs b L (rs.getD r 0)) ∧
    usedP (plRes cs rs L root a leaf).1 ≤ usedP cs + L := by
  obtain ⟨hrg, _⟩ := goodI_iff.1 h
  obtain ⟨hL, hc, hr1, hr8⟩ := rng_iff.1 hrg
  unfold plRes
  split
  · rename_i he
    refine ⟨rfl, fun r hrl b hb => ?_, by simp only; omega⟩
    split
    · rename_i hh
      rw [hh.1, hh.2]; exact he
    · rfl
  · rename_i hne
    obtain ⟨_, lv, lv', g, p⟩ := good_put h hr hne
    simp only
    refine ⟨by simp, fun r hrl b hb => ?_, ?_⟩
    · by_cases e : r = root
      · subst e
        rw [getD_set_eq hr]
        simp only [true_and]
        rw [p.own b]
        by_cases eb : b = a
        · rw [if_pos eb, if_pos ((dig_eq (by omega) (by omega) ha hb).2 eb)]
        · rw [if_neg eb, if_neg (fun hh => eb ((dig_eq (by omega) (by omega) ha hb).1 hh))]
      · rw [if_neg (fun hh => e hh.1), getD_set_ne (Ne.symm e)]
        refine p.keep _ ?_ (by simp) L b
        have : rs.getD r 0 = rs[r] := by rw [List.getD_eq_getElem?_getD, List.getElem?_eq_getElem hrl]; rfl
        rw [this]
        exact List.mem_eraseIdx_iff_getElem.2 ⟨r, hrl, e, rfl⟩
    · rw [usedP_eq fun j hj => p.wi.pos hj, usedP_eq fun j hj => g.wi.pos hj]
      exact p.us
theorem pl_some_iff {cs : List PC} {rs : List Int} {L root at_ : Int} {leaf : ByteArray} {p : List PC × List Int} (h : putLeafP cs rs L root at_ leaf = some p) :
    ∃ l q a : Nat, L = l ∧ root = q ∧ at_ = a ∧ goodI cs rs l = true ∧ q < rs.length ∧ a < 4 ^ (l - 1) ∧ p = plRes cs rs l q a leaf ∧ goodI p.1 p.2 l = true := by
  unfold putLeafP at h
  split at h
  · rename_i h1
    split at h
    · rename_i h2
      unfold plAsk at h1
      simp only [Bool.and_eq_true, decide_eq_true_eq] at h1
      obtain ⟨hg, hr, ha, hl⟩ := h1
      have hL := rng_iff.1 (goodI_iff.1 hg).1
      obtain ⟨l, rfl⟩ : ∃ l : Nat, L = l := ⟨L.toNat, by omega⟩
      obtain ⟨q, rfl⟩ : ∃ l : Nat, root = l := ⟨root.toNat, by omega⟩
      obtain ⟨a, rfl⟩ : ∃ l : Nat, at_ = l := ⟨at_.toNat, by omega⟩
      simp only [Int.toNat_natCast] at h h2 ha
      obtain rfl := Option.some.inj h
      exact ⟨l, q, a, rfl, rfl, rfl, hg, by omega, by omega, rfl, h2⟩
    · cases h
  · cases h
end Go.Proofs.Ytboccoihmginiaa

namespace Go.Proofs.Ytboccoihmginiaa
open Go.RowKit Go.Sol
set_option linter.unusedVariables false
set_option linter.unusedSimpArgs false
theorem leavesP_len (cs : List PC) (L root : Nat) (rs : List Int) : (leavesP cs L root rs).length = 4 ^ (L - 1) := by simp [leavesP]
theorem leavesP_at {cs : List PC} {L root : Nat} {rs : List Int} {k : Nat} (h : k < 4 ^ (L - 1)) : (strs (leavesP cs L root rs))[k]? = some (.string (leafP cs k L (rs.getD root 0))) := by
  simp [strs, leavesP, h]
theorem pict_ok {w : World} {a0 : Sl} {bs : List Int} (hr : Rd w 1 a0 (u8s bs)) (hb : ∀ x ∈ bs, 0 ≤ x ∧ x ≤ 255) :
    Calls Try.prog 3 #[Sl.v a0] w fun e w' => e = .returned (.bool true) ∧ Below w.heap.size w w' := by
  refine run_pure (fun R => f3_laws_FnPictures.ok R a0 w) fun R hR w1 N1 st => ?_
  unfold f3_laws_FnPictures.T
  refine t_ite (fun h1 => hR _ _ _ _ st rfl) (fun h1 => ?_)
  refine t_call (cs := []) (rest := []) st (fun _ => DrawPutLeaf_ok (st.rd0 hr) hb) fun y cs1 w2 N2 hp st => ?_
  obtain ⟨gs, rs, hsh, rfl⟩ := hp
  obtain ⟨a, b, L, root, at_, leaf⟩ := y
  simp only at st ⊢
  refine t_call (cs := []) st (fun _ => PutLeafI_ok (Own_rw st.own) hsh.kl) fun y cs1 w2 N2 hp st => ?_
  generalize hres : putLeafP (pcs gs) rs L root at_ leaf = res at *
  obtain ⟨gs2, hw2, st⟩ := plPost_st hp st
  obtain ⟨a2, b2, L2, ok2⟩ := y
  simp only at hw2 st ⊢
  clear hp
  have st3 : Stt w [] (cowO a2 b2 gs2 (plFlat L res).2.1 ++ (cowO a b gs rs ++ [])) w2 N2 := st
  replace st : Stt w [] (cowO a2 b2 gs2 (plFlat L res).2.1 ++ cowO a b gs rs) w2 N2 := st3.eq (by rw [List.append_nil])
  clear st3
  have rwa : ∀ {w' N' x}, Stt w [] (cowO a2 b2 gs2 (plFlat L res).2.1 ++ cowO a b gs rs ++ x) w' N' → RW w' a b gs rs := fun st => Own_rw (rest := []) (((st.left).sub (List.sublist_append_right _ _)).eq (List.append_nil _).symm).own
  refine t_call (cs := []) (rest := cowO a2 b2 gs2 (plFlat L res).2.1 ++ cowO a b gs rs) st (fun _ => PutLeafS_ok (rwa (st.eq (List.append_nil _).symm)) hsh.kl) fun y cs1 w2 N2 hp st => ?_
  rw [hres] at hp
  obtain ⟨gs3, hw3, st⟩ := plPost_st hp st
  obtain ⟨a3, b3, L3, ok3⟩ := y
  simp only at hw3 st ⊢
  clear hp
  replace st := st.sub (List.sublist_append_right _ _)
  have hok : ok2 = ok3 := by
    have := hw2.trans hw3.symm
    simp only [Prod.mk.injEq] at this
    exact this.2.2.2
  rw [hok, BEq.rfl]
  refine t_itef rfl ?_
  have rwa' : ∀ {w' N'}, Stt w [] (cowO a2 b2 gs2 (plFlat L res).2.1 ++ cowO a b gs rs) w' N' → RW w' a b gs rs := fun st => rwa (st.eq (List.append_nil _).symm)
  refine t_callq st (fun w' N' st => goodI_ok (rwa' st) hsh.kl) fun w2 N2 st => ?_
  refine t_callq st (fun w' N' st => goodS_ok' (rwa' st) hsh.kl) fun w2 N2 st => ?_
  rw [BEq.rfl]
  unfold f3_laws_FnPictures.J1
  refine t_itef rfl ?_
  cases res with
  | none =>
    simp only [plFlat, Prod.mk.injEq] at hw2
    obtain ⟨hg2, _, hL2, hk2⟩ := hw2
    have hk3 : ok3 = false := by rw [← hok]; exact hk2
    refine t_itet (by rw [hk3]; rfl) ?_
    have hb2 : b2.n = 0 := by
      have := (st.own.ok ⟨3, 1, b2, ints []⟩ (by simp [cowO, plFlat])).rd.n1
      simpa using this
    exact hR _ _ _ _ st (by simp [hb2])
  | some p =>
    simp only [plFlat, Prod.mk.injEq] at hw2 st rwa rwa'
    obtain ⟨hg2, _, hL2, hk2⟩ := hw2
    have hk3 : ok3 = true := by rw [← hok]; exact hk2
    have stN := st
    clear st
    subst hL2
    refine t_itef (by rw [hk3]; rfl) ?_
    obtain ⟨l, q, k, rfl, rfl, rfl, hg, hq, hka, hpe, hgp⟩ := pl_some_iff hres
    obtain ⟨hlen, hleaf, hused⟩ := pict (leaf := leaf) hg hq hka
    rw [← hpe] at hlen hleaf hused
    rw [← hg2] at hgp hleaf hused
    obtain ⟨p1, p2⟩ := p
    simp only at hg2 hgp hlen hleaf hused stN rwa rwa'
    have st := stN
    obtain ⟨hL, hc80, hr1, hr8⟩ := rng_iff.1 (goodI_iff.1 hg).1
    have hsh2 := good_shp hgp rfl
    have hp4 : 4 ^ (l - 1) ≤ 4 ^ 3 := Nat.pow_le_pow_right (by omega) (by omega)
    have hp4 : 4 ^ (l - 1) ≤ 64 := hp4
    have rw2 : ∀ {w' N'}, Stt w [] (cowO a2 b2 gs2 p2 ++ cowO a b gs rs) w' N' → RW w' a2 b2 gs2 p2 := fun st => Own_rw st.own
    refine t_callp st (goodI_ok (rw2 st) hsh2.kl) fun w2 N2 st => ?_
    rw [hgp]
    refine t_itef rfl ?_
    refine t_callp st (goodS_ok' (rw2 st) hsh2.kl) fun w2 N2 st => ?_
    rw [hgp]
    refine t_itef rfl ?_
    have hbn : b.n = rs.length := by have := (rwa' st).r.n1; simpa using this
    have hb2n : b2.n = p2.length := by have := (rw2 st).r.n1; simpa using this
    rw [hbn, hb2n, hlen]
    unfold f3_laws_FnPictures.J2
    refine t_itef (by simp) ?_
    refine t_loop (fun (r : Nat) (z : Int) => z = (r : Int) ∧ r ≤ rs.length) (fun _ _ => cowO a2 b2 gs2 p2 ++ cowO a b gs rs) (fun r _ => rs.length - r) 0 st ⟨rfl, Nat.zero_le _⟩ ?_
    rintro r z w2 N2 next ⟨rfl, hr⟩ st hn
    show f3_laws_FnPictures.L3 R (a, b, (l : Int), (q : Int), (k : Int), leaf) (a2, b2, (l : Int), ok3) (r : Int) _ w2 N2
    unfold f3_laws_FnPictures.L3
    simp only [hbn]
    refine t_ite (fun h2 => ?_) (fun h2 => ?_)
    · have hrl : r < rs.length := by simp at h2; exact h2
      refine t_call (cs := []) (rest := cowO a2 b2 gs2 p2 ++ cowO a b gs rs) st (fun _ => LeavesOf_ok (rwa' st) hsh.kl hg hrl) fun y cs1 w2 N2 hp st => ?_
      obtain ⟨y1, y1b⟩ := y
      obtain ⟨rfl, rfl⟩ := hp
      simp only at st ⊢
      refine t_call (cs := []) (rest := [⟨9, 1, y1, strs (leavesP (pcs gs) l r rs)⟩] ++ (cowO a2 b2 gs2 p2 ++ cowO a b gs rs)) st (fun _ => LeavesOf_ok (rw2 (st.sub (List.sublist_append_right _ _))) hsh2.kl hgp (by omega)) fun y cs1 w2 N2 hp st => ?_
      obtain ⟨y2, y2b⟩ := y
      obtain ⟨rfl, rfl⟩ := hp
      simp only at st ⊢
      replace st : Stt w [] ([⟨9, 1, y2, strs (leavesP (pcs gs2) l r p2)⟩, ⟨9, 1, y1, strs (leavesP (pcs gs) l r rs)⟩] ++ (cowO a2 b2 gs2 p2 ++ cowO a b gs rs)) w2 N2 := st
      have hy2n : y2.n = 4 ^ (l - 1) := by have := (st.ch (i := 0) rfl).rd.n1; simpa [strs, leavesP_len] using this
      have hy1n : y1.n = 4 ^ (l - 1) := by have := (st.ch (i := 1) rfl).rd.n1; simpa [strs, leavesP_len] using this
      refine t_itef rfl (t_itef rfl ?_)
      unfold f3_laws_FnPictures.J4
      refine t_itef (by simp [hy1n, hy2n]) ?_
      refine t_loop (fun (j : Nat) (z : Int) => z = (j : Int) ∧ j ≤ 4 ^ (l - 1)) (fun _ _ => [⟨9, 1, y2, strs (leavesP (pcs gs2) l r p2)⟩, ⟨9, 1, y1, strs (leavesP (pcs gs) l r rs)⟩] ++ (cowO a2 b2 gs2 p2 ++ cowO a b gs rs)) (fun j _ => 4 ^ (l - 1) - j) 0 st ⟨rfl, Nat.zero_le _⟩ ?_
      rintro j z w2 N2 next2 ⟨rfl, hj⟩ st hn2
      show f3_laws_FnPictures.L5 R (a, b, (l : Int), (q : Int), (k : Int), leaf) next (r : Int) (y1, true) (y2, true) (j : Int) _ w2 N2
      unfold f3_laws_FnPictures.L5
      simp only [hy1n]
      refine t_ite (fun h3 => ?_) (fun h3 => ?_)
      · have hjl : j < 4 ^ (l - 1) := by simpa only [decide_eq_true_eq, Int.ofNat_lt] using h3
        obtain ⟨ad1, hA1, _⟩ := (st.ch (i := 1) rfl).rd.addr (i := j) (by simp only; omega)
        obtain ⟨ad2, hA2, _⟩ := (st.ch (i := 0) rfl).rd.addr (i := j) (by simp only; omega)
        simp only at hA1 hA2
        refine t_idx' j hA1 (by omega) (by omega) (by simp) ?_
        refine t_ldc (x := leafP (pcs gs) j l (rs.getD r 0)) st (fun w' N' st => st.cell (i := 1) rfl hA1 (leavesP_at hjl)) fun w2 N2 st => ?_
        have hlf := hleaf r hrl j hjl
        have fin : ∀ (v : ByteArray), v = leafP (pcs gs2) j l (p2.getD r 0) → ∀ {w2 N2}, Stt w [] ([⟨9, 1, y2, strs (leavesP (pcs gs2) l r p2)⟩, ⟨9, 1, y1, strs (leavesP (pcs gs) l r rs)⟩] ++ (cowO a2 b2 gs2 p2 ++ cowO a b gs rs)) w2 N2 → f3_laws_FnPictures.J6 R (y2, true) (fun z0 => next2 z0) (j : Int) v w2 N2 := by
          intro v hv w2 N2 st
          unfold f3_laws_FnPictures.J6
          refine t_idx' j hA2 (by omega) (by simp only; omega) (by simp) ?_
          refine t_ldc (x := leafP (pcs gs2) j l (p2.getD r 0)) st (fun w' N' st => st.cell (i := 0) rfl hA2 (leavesP_at hjl)) fun w2 N2 st => ?_
          rw [← hv, bytes_beq, decide_eq_true rfl]
          refine t_itef rfl ?_
          rw [w64s (by simp only [maxLen]; omega)]
          exact hn2 (j + 1) _ _ _ ⟨rfl, hjl⟩ (by omega) st
        unfold f3_laws_FnPictures.J7
        refine t_ite (fun h4 => ?_) (fun h4 => ?_)
        · have h4 : r = q := by simp at h4; omega
          refine t_ite (fun h5 => ?_) (fun h5 => ?_)
          · have h5 : j = k := by simp at h5; omega
            exact fin _ (by rw [hlf, if_pos ⟨h4, h5⟩]) st
          · have h5 : j ≠ k := by simp at h5; omega
            exact fin _ (by rw [hlf, if_neg fun hh => h5 hh.2]) st
        · have h4 : r ≠ q := by simp at h4; omega
          exact t_itef rfl (fin _ (by rw [hlf, if_neg fun hh => h4 hh.1]) st)
      · show next _ _ _
        rw [w64s (by simp only [maxLen]; omega)]
        exact hn (r + 1) _ _ _ ⟨rfl, hrl⟩ (by omega) (st.sub (List.sublist_append_right _ _))
    · refine t_callp (x := (leafP (pcs gs2) k l (p2.getD q 0), true)) st (LeafAt_ok (rw2 st) hsh2.kl hgp (by omega) hka) fun w2 N2 st => ?_
      refine t_callp (x := ((usedP (pcs gs) : Int), true)) st (UsedCells_ok (rwa' st) hsh.kl hg) fun w2 N2 st => ?_
      refine t_callp (x := ((usedP (pcs gs2) : Int), true)) st (UsedCells_ok (rw2 st) hsh2.kl hgp) fun w2 N2 st => ?_
      refine t_itet rfl (t_itet rfl (t_itet rfl ?_))
      have hlf := hleaf q hq k hka
      rw [if_pos ⟨rfl, rfl⟩] at hlf
      simp only
      rw [bytes_beq, hlf]
      refine t_itet (decide_eq_true rfl) ?_
      have hub : usedP (pcs gs) ≤ 80 := by
        have := List.countP_le_length (p := fun c : PC => decide (0 < c.n)) (l := pcs gs)
        unfold usedP
        omega
      unfold f3_laws_FnPictures.J8
      rw [w64i (by omega) (by omega)]
      exact hR _ _ _ _ st (by rw [decide_eq_true (by omega)])
end Go.Proofs.Ytboccoihmginiaa
