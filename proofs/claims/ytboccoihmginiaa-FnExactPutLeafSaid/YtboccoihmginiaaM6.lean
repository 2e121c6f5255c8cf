/-
Helper texts: Helper text: PutLeaf, in the program and in the reference. Helper text: FnExactPutLeaf walked. No condition.
-/
import Derived.Test.YtboccoihmginiaaM5
namespace Go.Proofs.Ytboccoihmginiaa
open Go.RowKit Go.Sol
set_option linter.unusedVariables false
set_option linter.unusedSimpArgs false

theorem isRoot_ok {w : World} {a b : Sl} {gs : List GC} {rs : List Int} {L root : Int} (h : RW w a b gs rs) (hkl : ∀ g ∈ gs, g.1.k.length ≤ 1048576) :
    Calls Try.prog 21 #[.agg #[Sl.v a, Sl.v b, .int .i64 L], .int .i64 root] w fun e w' => e = .returned (.bool (goodI (pcs gs) rs L && decide (0 ≤ root ∧ root ≤ (rs.length : Int) - 1))) ∧ Below w.heap.size w w' := by
  have hnb : b.n = rs.length := by simpa using h.r.n1
  have hbm := h.r.2.1
  refine run_pure (fun R => f21_impl_isRoot.ok R a b L root w) fun R hR w1 N1 st => ?_
  unfold f21_impl_isRoot.T f21_impl_isRoot.J1
  refine t_callp st (goodI_ok (h.st st) hkl) fun w2 N2 st => ?_
  refine t_ite (fun h1 => ?_) (fun h1 => ?_)
  · rw [w64i (by omega) (by simp only [maxLen] at hbm; omega)]
    refine t_callp st (within_ok _ _ _) fun w2 N2 st => ?_
    exact hR _ _ _ _ st (by rw [h1, hnb]; rfl)
  · exact hR _ _ _ _ st (by rw [h1]; rfl)

abbrev tupB : Sl × Sl × Int × Bool → Value := fun z => .tuple #[.agg #[Sl.v z.1, Sl.v z.2.1, .int .i64 z.2.2.1], .bool z.2.2.2]
def plPost (L : Int) (r : Option (List PC × List Int)) (y : Sl × Sl × Int × Bool) (cs1 : List Ch) : Prop :=
  match r with
  | none => y = (Sl.nil, Sl.nil, 0, false) ∧ cs1 = []
  | some p => ∃ gs', pcs gs' = p.1 ∧ y.2.2 = (L, true) ∧ cs1 = cowO y.1 y.2.1 gs' p.2
theorem pl_none {L : Int} {y : Sl × Sl × Int × Bool} {cs1 : List Ch} (h : y = (Sl.nil, Sl.nil, 0, false)) (h2 : cs1 = []) {r : Option (List PC × List Int)} (hr : r = none) : plPost L r y cs1 := by subst hr; exact ⟨h, h2⟩
theorem pl_some {L : Int} {y : Sl × Sl × Int × Bool} {gs' : List GC} {p : List PC × List Int} {cs1 : List Ch} (h1 : pcs gs' = p.1) (h2 : y.2.2 = (L, true)) (h3 : cs1 = cowO y.1 y.2.1 gs' p.2) {r : Option (List PC × List Int)} (hr : r = some p) : plPost L r y cs1 := by subst hr; exact ⟨gs', h1, h2, h3⟩
theorem kl_of {gs' : List GC} {l : List PC} (h : pcs gs' = l) (hk : ∀ c ∈ l, c.k.length ≤ 4) : ∀ g ∈ gs', g.1.k.length ≤ 1048576 := by
  intro g hg
  have := hk g.1 (by rw [← h]; exact List.mem_map.2 ⟨g, hg, rfl⟩)
  omega

theorem PutLeafI_ok {w : World} {a b : Sl} {gs : List GC} {rs : List Int} {L root at_ : Int} {leaf : ByteArray} (h : RW w a b gs rs) (hkl : ∀ g ∈ gs, g.1.k.length ≤ 1048576) :
    Calls Try.prog 6 #[.agg #[Sl.v a, Sl.v b, .int .i64 L], .int .i64 root, .int .i64 at_, .string leaf] w fun e w' => ∃ (y : Sl × Sl × Int × Bool) (cs1 : List Ch), e = .returned (tupB y) ∧ plPost L (putLeafP (pcs gs) rs L root at_ leaf) y cs1 ∧ Res w [] w' cs1 := by
  have hnb : b.n = rs.length := by simpa using h.r.n1
  have hna := h.c.n
  have hbm := h.r.2.1
  refine run_ok (fun R => f6_impl_PutLeaf.ok R a b L root at_ leaf w) [] (Own.nil w NO) tupB (fun y cs1 => plPost L (putLeafP (pcs gs) rs L root at_ leaf) y cs1) fun R hR w1 N1 st => ?_
  have hno : putLeafP (pcs gs) rs L root at_ leaf = none → ∀ {cs w' N'}, Stt w [] cs w' N' → T.ret R (.tuple #[.agg #[Sl.v Sl.nil, Sl.v Sl.nil, .int .i64 0], .bool false]) w' N' :=
    fun hn {cs w' N'} st => hR (Sl.nil, Sl.nil, 0, false) [] _ _ _ (st.sub (List.nil_sublist _)) (pl_none rfl rfl hn) rfl
  have hno1 : plAsk (pcs gs) rs L root at_ leaf = false → ∀ {cs w' N'}, Stt w [] cs w' N' → f6_impl_PutLeaf.J1 R a b L root at_ leaf true w' N' := by
    intro hf cs w' N' st
    unfold f6_impl_PutLeaf.J1
    exact t_itet rfl (hno (by unfold putLeafP; rw [hf]; rfl) st)
  unfold f6_impl_PutLeaf.T
  refine t_callp st (isRoot_ok (h.st st) hkl) fun w2 N2 st => ?_
  refine t_ite (fun h1 => ?_) (fun h1 => ?_)
  · refine hno1 ?_ st
    have h1 : (goodI (pcs gs) rs L && decide (0 ≤ root ∧ root ≤ (rs.length : Int) - 1)) = false := by simpa only [Bool.not_eq_true'] using h1
    unfold plAsk
    rw [← Bool.and_assoc, h1]; rfl
  have h1 : (goodI (pcs gs) rs L && decide (0 ≤ root ∧ root ≤ (rs.length : Int) - 1)) = true := by simpa only [Bool.not_eq_false'] using h1
  have hask : plAsk (pcs gs) rs L root at_ leaf = (decide (0 ≤ at_ ∧ at_ ≤ ((4 ^ (L.toNat - 1) : Nat) : Int) - 1) && decide (leaf.size ≤ 8)) := by
    unfold plAsk
    rw [← Bool.and_assoc, h1]; rfl
  obtain ⟨hg, hroot⟩ : goodI (pcs gs) rs L = true ∧ (0 ≤ root ∧ root ≤ (rs.length : Int) - 1) := by simpa only [Bool.and_eq_true, decide_eq_true_eq] using h1
  obtain ⟨hL, hc80, hr1, hr8⟩ := rng_iff.1 (goodI_iff.1 hg).1
  rw [pcs_len] at hc80
  obtain ⟨l, rfl⟩ : ∃ l : Nat, L = (l : Int) := ⟨L.toNat, by omega⟩
  rw [Int.toNat_natCast] at hask
  obtain ⟨q, rfl⟩ : ∃ q : Nat, root = (q : Int) := ⟨root.toNat, by omega⟩
  have hq : q < rs.length := by omega
  have hp4 : 4 ^ (l - 1) ≤ 4 ^ 3 := Nat.pow_le_pow_right (by omega) (by omega)
  have hp4 : 4 ^ (l - 1) ≤ 64 := hp4
  have hp0 : (0 : Int) ≤ ((4 ^ (l - 1) : Nat) : Int) := Int.natCast_nonneg _
  refine t_callp st (places_ok a b (lv := l) (by omega) (by omega)) fun w2 N2 st => ?_
  rw [w64i (by omega) (by omega)]
  refine t_callp st (within_ok _ _ _) fun w2 N2 st => ?_
  refine t_ite (fun h2 => ?_) (fun h2 => ?_)
  · refine hno1 ?_ st
    rw [hask, show decide (0 ≤ at_ ∧ at_ ≤ ((4 ^ (l - 1) : Nat) : Int) - 1) = false by simpa only [Bool.not_eq_true'] using h2]; rfl
  have h2 : decide (0 ≤ at_ ∧ at_ ≤ ((4 ^ (l - 1) : Nat) : Int) - 1) = true := by simpa only [Bool.not_eq_false'] using h2
  rw [h2, Bool.true_and] at hask
  have h2 : 0 ≤ at_ ∧ at_ ≤ ((4 ^ (l - 1) : Nat) : Int) - 1 := by simpa using h2
  obtain ⟨p, rfl⟩ : ∃ p : Nat, at_ = (p : Int) := ⟨at_.toNat, by omega⟩
  by_cases h3 : ¬ leaf.size ≤ 8
  · rw [decide_eq_true (by omega)]
    exact hno1 (by rw [hask, decide_eq_false h3]) st
  have h3 : leaf.size ≤ 8 := Decidable.not_not.1 h3
  rw [decide_eq_false (by omega)]
  rw [decide_eq_true h3] at hask
  have hres : putLeafP (pcs gs) rs l q p leaf = if goodI (plRes (pcs gs) rs l q p leaf).1 (plRes (pcs gs) rs l q p leaf).2 l then some (plRes (pcs gs) rs l q p leaf) else none := by
    unfold putLeafP
    rw [if_pos hask, Int.toNat_natCast, Int.toNat_natCast, Int.toNat_natCast]
  have hkres := plRes_kl (root := q) (a := p) (leaf := leaf) hg hq
  -- the end
  have hend : ∀ {g : Nat} {a' b' : Sl} {gs' : List GC} {w' : World} {N' : NP}, pcs gs' = (plRes (pcs gs) rs l q p leaf).1 → Stt w [] (hdrCh g a' b' l :: cowO a' b' gs' (plRes (pcs gs) rs l q p leaf).2) w' N' → f6_impl_PutLeaf.J2 R (some ⟨g, 0, none⟩) w' N' := by
    intro g a' b' gs' w' N' hgs st
    unfold f6_impl_PutLeaf.J2
    refine t_nn rfl ?_
    refine t_ldc (x := a') st (fun w' N' st => hdr0 (b := b') (lv := l) st (by simp)) fun w2 N2 st => ?_
    refine t_ldc (x := b') st (fun w' N' st => cellm (c := hdrCh g a' b' l) st (by simp) rfl (j := 1) rfl) fun w2 N2 st => ?_
    refine t_ldc (x := (l : Int)) st (fun w' N' st => cellm (c := hdrCh g a' b' l) st (by simp) rfl (j := 2) rfl) fun w2 N2 st => ?_
    have hrw : RW w2 a' b' gs' (plRes (pcs gs) rs l q p leaf).2 := Own_rw (rest := []) ((st.sub (List.sublist_cons_self _ _)).eq (List.append_nil _).symm).own
    refine t_callp st (goodI_ok hrw (kl_of hgs hkres)) fun w2 N2 st => ?_
    rw [hgs]
    refine t_ite (fun h4 => ?_) (fun h4 => ?_)
    · refine hno ?_ st
      rw [hres, if_neg (by simpa using h4)]
    · refine t_nn rfl ?_
      refine t_ldc (x := a') st (fun w' N' st => hdr0 (b := b') (lv := l) st (by simp)) fun w2 N2 st => ?_
      refine t_ldc (x := b') st (fun w' N' st => cellm (c := hdrCh g a' b' l) st (by simp) rfl (j := 1) rfl) fun w2 N2 st => ?_
      refine t_ldc (x := (l : Int)) st (fun w' N' st => cellm (c := hdrCh g a' b' l) st (by simp) rfl (j := 2) rfl) fun w2 N2 st => ?_
      exact hR (a', b', l, true) _ _ _ _ (st.sub (List.sublist_cons_self _ _)) (pl_some hgs rfl rfl (by rw [hres, if_pos (by simpa using h4)])) rfl
  unfold f6_impl_PutLeaf.J1
  refine t_itef rfl ?_
  refine t_call (cs := []) (rest := []) st (fun _ => ownCow_ok (h.st st) (by omega) (by omega) hkl) fun y cs1 w2 N2 hp st => ?_
  obtain ⟨g, a', b', gs', rfl, hgs, rfl⟩ := hp
  replace st := st.eq (List.append_nil _)
  have hpath := good_path (a := p) hg hq
  have hrq : rs.getD q 0 = rs[q] := by rw [List.getD_eq_getElem?_getD, List.getElem?_eq_getElem hq]; rfl
  rw [hrq] at hpath
  refine t_callp st (leafAt_ok (h.st st) (by omega) (by omega) hq (by omega) hpath) fun w2 N2 st => ?_
  rw [bytes_beq]
  refine t_ite (fun h4 => ?_) (fun h4 => ?_)
  · have h4 : leafP (pcs gs) p l rs[q] ≠ leaf := by simpa using h4
    have hpr : plRes (pcs gs) rs l q p leaf = ((putP p leaf l (pcs gs) rs[q]).1, rs.set q (putP p leaf l (pcs gs) rs[q]).2) := by
      unfold plRes
      rw [hrq, if_neg h4]
    have hgp := (good_put (a := p) hg hq (by rw [hrq]; exact h4)).1
    rw [hrq, ← hgs] at hgp
    have ldb : ∀ {gs' : List GC} {a' : Sl} {rs' : List Int} {w' N'}, Stt w [] (hdrCh g a' b' l :: cowO a' b' gs' rs') w' N' → w'.cell? ((⟨g, 0, none⟩ : Addr).add 1) = some (Sl.v b') := fun {gs' a' rs' w' N'} st => cellm (c := hdrCh g a' b' l) st (by simp) rfl (j := 1) rfl
    refine t_nn rfl ?_
    refine t_ldc (x := b') st (fun w' N' st => ldb st) fun w2 N2 st => ?_
    refine t_nn rfl ?_
    refine t_ldc (x := b') st (fun w' N' st => ldb st) fun w2 N2 st => ?_
    have hrow : ∀ {gs' : List GC} {a' : Sl} {rs' : List Int}, (⟨3, 1, b', ints rs'⟩ : Ch) ∈ hdrCh g a' b' l :: cowO a' b' gs' rs' := by intro gs' a' rs'; simp [cowO]
    have hb'n : b'.n = rs.length := by have := (st.own.ok _ hrow).rd.n1; simpa using this
    obtain ⟨bd, hB, _⟩ := (st.own.ok _ hrow).rd.addr (i := q) (by simp only; omega)
    simp only at hB
    refine t_idx' q hB (by omega) (by omega) (by simp) ?_
    refine t_ldc (x := rs[q]) st (fun w' N' st => cellm st hrow hB (ints_at (by simp [hq]))) fun w2 N2 st => ?_
    refine t_call (cs := hcow g a' b' l gs') (rest := [⟨3, 1, b', ints rs⟩]) (st.perm ?_) (fun o => put_ok (by omega) l (by omega) (by omega) w2 g a' b' gs' l rs[q] o hgp) fun y cs1 w2 N2 hq2 st => ?_
    · simp only [hcow, cowO, List.append_assoc, List.cons_append, List.nil_append]
      exact List.perm_middle
    obtain ⟨a2, gs2, hput, rfl⟩ := hq2
    rw [hgs] at hput
    replace st : Stt w [] (hdrCh g a2 b' l :: cowO a2 b' gs2 rs) w2 N2 := by
      refine st.perm ?_
      simp only [hcow, cowO, List.append_assoc, List.cons_append, List.nil_append]
      exact List.perm_middle.symm
    refine t_chk st (fun w' N' st => ldb st) fun w2 N2 st => ?_
    refine t_idx' q hB (by omega) (by omega) (by simp) ?_
    refine t_stcm (l1 := hdrCh g a2 b' l :: cowCh a2 gs2) (l2 := []) (c := ⟨3, 1, b', ints rs⟩) (j := q) st hB (by simpa using hq) rfl fun w2 N2 st => ?_
    refine hend (gs' := gs2) (a' := a2) (b' := b') (by rw [hpr, ← hput]) (st.eq ?_)
    rw [hpr, ← hput]
    simp [cowO, ints]
  · have h4 : leafP (pcs gs) p l rs[q] = leaf := by simpa using h4
    have hpr : plRes (pcs gs) rs l q p leaf = (pcs gs, rs) := by
      unfold plRes
      rw [hrq, if_pos h4]
    exact hend (by rw [hpr, hgs]) (st.eq (by rw [hpr]))

theorem PutLeafS_ok {w : World} {a b : Sl} {gs : List GC} {rs : List Int} {L root at_ : Int} {leaf : ByteArray} (h : RW w a b gs rs) (hkl : ∀ g ∈ gs, g.1.k.length ≤ 1048576) :
    Calls Try.prog 7 #[.agg #[Sl.v a, Sl.v b, .int .i64 L], .int .i64 root, .int .i64 at_, .string leaf] w fun e w' => ∃ (y : Sl × Sl × Int × Bool) (cs1 : List Ch), e = .returned (tupB y) ∧ plPost L (putLeafP (pcs gs) rs L root at_ leaf) y cs1 ∧ Res w [] w' cs1 := by
  have hnb : b.n = rs.length := by simpa using h.r.n1
  have hna := h.c.n
  have hbm := h.r.2.1
  refine run_ok (fun R => f7_spec_PutLeaf.ok R a b L root at_ leaf w) [] (Own.nil w NO) tupB (fun y cs1 => plPost L (putLeafP (pcs gs) rs L root at_ leaf) y cs1) fun R hR w1 N1 st => ?_
  have hno : putLeafP (pcs gs) rs L root at_ leaf = none → ∀ {cs w' N'}, Stt w [] cs w' N' → T.ret R (.tuple #[.agg #[Sl.v Sl.nil, Sl.v Sl.nil, .int .i64 0], .bool false]) w' N' :=
    fun hn {cs w' N'} st => hR (Sl.nil, Sl.nil, 0, false) [] _ _ _ (st.sub (List.nil_sublist _)) (pl_none rfl rfl hn) rfl
  have hno1 : plAsk (pcs gs) rs L root at_ leaf = false → ∀ {cs w' N'}, Stt w [] cs w' N' → f7_spec_PutLeaf.J1 R a b L root at_ leaf true w' N' := by
    intro hf cs w' N' st
    unfold f7_spec_PutLeaf.J1
    exact t_itet rfl (hno (by unfold putLeafP; rw [hf]; rfl) st)
  unfold f7_spec_PutLeaf.T
  refine t_callp st (goodS_ok' (h.st st) hkl) fun w2 N2 st => ?_
  refine t_ite (fun h1 => ?_) (fun h1 => ?_)
  · refine hno1 ?_ st
    unfold plAsk
    rw [show goodI (pcs gs) rs L = false by simpa using h1]; rfl
  have hg : goodI (pcs gs) rs L = true := by simpa using h1
  obtain ⟨hL, hc80, hr1, hr8⟩ := rng_iff.1 (goodI_iff.1 hg).1
  rw [pcs_len] at hc80
  rw [w64i (by omega) (by omega)]
  refine t_callp st (l1In_ok _ _ _) fun w2 N2 st => ?_
  rw [hnb]
  refine t_ite (fun h2 => ?_) (fun h2 => ?_)
  · refine hno1 ?_ st
    unfold plAsk
    rw [show decide (0 ≤ root ∧ root ≤ (rs.length : Int) - 1) = false by simpa only [Bool.not_eq_true'] using h2]; simp
  have hroot : 0 ≤ root ∧ root ≤ (rs.length : Int) - 1 := by
    have : decide (0 ≤ root ∧ root ≤ (rs.length : Int) - 1) = true := by simpa only [Bool.not_eq_false'] using h2
    simpa using this
  have hask : plAsk (pcs gs) rs L root at_ leaf = (decide (0 ≤ at_ ∧ at_ ≤ ((4 ^ (L.toNat - 1) : Nat) : Int) - 1) && decide (leaf.size ≤ 8)) := by
    unfold plAsk
    rw [hg, decide_eq_true hroot]; rfl
  obtain ⟨l, rfl⟩ : ∃ l : Nat, L = (l : Int) := ⟨L.toNat, by omega⟩
  rw [Int.toNat_natCast] at hask
  obtain ⟨q, rfl⟩ : ∃ q : Nat, root = (q : Int) := ⟨root.toNat, by omega⟩
  have hq : q < rs.length := by omega
  have hp4 : 4 ^ (l - 1) ≤ 4 ^ 3 := Nat.pow_le_pow_right (by omega) (by omega)
  have hp4 : 4 ^ (l - 1) ≤ 64 := hp4
  have hp0 : (0 : Int) ≤ ((4 ^ (l - 1) : Nat) : Int) := Int.natCast_nonneg _
  refine t_callp st (l14Places_ok a b (lv := l) (by omega) (by omega)) fun w2 N2 st => ?_
  rw [w64i (by omega) (by omega)]
  refine t_callp st (l1In_ok _ _ _) fun w2 N2 st => ?_
  refine t_ite (fun h2 => ?_) (fun h2 => ?_)
  · refine hno1 ?_ st
    rw [hask, show decide (0 ≤ at_ ∧ at_ ≤ ((4 ^ (l - 1) : Nat) : Int) - 1) = false by simpa only [Bool.not_eq_true'] using h2]; rfl
  have h2 : decide (0 ≤ at_ ∧ at_ ≤ ((4 ^ (l - 1) : Nat) : Int) - 1) = true := by simpa only [Bool.not_eq_false'] using h2
  rw [h2, Bool.true_and] at hask
  have h2 : 0 ≤ at_ ∧ at_ ≤ ((4 ^ (l - 1) : Nat) : Int) - 1 := by simpa using h2
  obtain ⟨p, rfl⟩ : ∃ p : Nat, at_ = (p : Int) := ⟨at_.toNat, by omega⟩
  have hpl : p < 4 ^ (l - 1) := by omega
  by_cases h3 : ¬ leaf.size ≤ 8
  · rw [decide_eq_true (by omega)]
    exact hno1 (by rw [hask, decide_eq_false h3]) st
  have h3 : leaf.size ≤ 8 := Decidable.not_not.1 h3
  rw [decide_eq_false (by omega)]
  rw [decide_eq_true h3] at hask
  have hres : putLeafP (pcs gs) rs l q p leaf = if goodI (plRes (pcs gs) rs l q p leaf).1 (plRes (pcs gs) rs l q p leaf).2 l then some (plRes (pcs gs) rs l q p leaf) else none := by
    unfold putLeafP
    rw [if_pos hask, Int.toNat_natCast, Int.toNat_natCast, Int.toNat_natCast]
  have hkres := plRes_kl (root := q) (a := p) (leaf := leaf) hg hq
  have hpath := good_path (a := p) hg hq
  have hrq : rs.getD q 0 = rs[q] := by rw [List.getD_eq_getElem?_getD, List.getElem?_eq_getElem hq]; rfl
  rw [hrq] at hpath
  obtain ⟨bd, hB, hbc⟩ := h.r.addr (i := q) (by omega)
  unfold f7_spec_PutLeaf.J1
  refine t_itef rfl ?_
  refine t_idx' q hB (by omega) (by omega) (by simp) ?_
  refine t_ldc (x := rs[q]) st (fun w' N' s => s.old0 (hbc q _ (ints_at (by simp [hq])))) fun w2 N2 st => ?_
  refine t_callq st (fun w' N' s => l14Leaf_ok (h.st s) (by omega) (by omega) hpl hpath) fun w2 N2 st => ?_
  rw [bytes_beq]
  refine t_ite (fun h4 => ?_) (fun h4 => ?_)
  · have h4 : leafP (pcs gs) p l rs[q] = leaf := by simpa using h4
    have hpr : plRes (pcs gs) rs l q p leaf = (pcs gs, rs) := by
      unfold plRes
      rw [hrq, if_pos h4]
    refine t_call (cs := []) (rest := []) st (fun _ => l14Own_ok (h.st st) (by omega) (by omega) hkl) fun y cs1 w2 N2 hp st => ?_
    obtain ⟨gs', hy, hgs, hyn, rfl⟩ := hp
    obtain ⟨a', b', L'⟩ := y
    simp only at hy
    subst hy
    exact hR (a', b', l, true) _ _ _ _ (st.eq (List.append_nil _)) (pl_some (p := (pcs gs, rs)) hgs rfl rfl (by rw [hres, hpr, if_pos hg])) rfl
  · have h4 : leafP (pcs gs) p l rs[q] ≠ leaf := by simpa using h4
    have hpr : plRes (pcs gs) rs l q p leaf = ((putP p leaf l (pcs gs) rs[q]).1, rs.set q (putP p leaf l (pcs gs) rs[q]).2) := by
      unfold plRes
      rw [hrq, if_neg h4]
    have hgp := (good_put (a := p) hg hq (by rw [hrq]; exact h4)).1
    rw [hrq] at hgp
    refine t_idx' q hB (by omega) (by omega) (by simp) ?_
    refine t_ldc (x := rs[q]) st (fun w' N' s => s.old0 (hbc q _ (ints_at (by simp [hq])))) fun w2 N2 st => ?_
    refine t_call (cs := []) (rest := []) st (fun _ => l14Own_ok (h.st st) (by omega) (by omega) hkl) fun y cs1 w2 N2 hp st => ?_
    obtain ⟨gs', hy, hgs, hyn, rfl⟩ := hp
    obtain ⟨a', b', L'⟩ := y
    simp only at hy hyn st
    subst hy
    simp only
    refine t_chk st (fun w' N' s => s.old0 (hbc q _ (ints_at (by simp [hq])))) fun w2 N2 st => ?_
    have hmod : (p : Int) = ((p % 4 ^ (l - 1) : Nat) : Int) := by rw [Nat.mod_eq_of_lt hpl]
    rw [hmod]
    rw [← hgs] at hgp
    refine t_call (cs := cowCh a' gs') (rest := [⟨3, 1, b', ints rs⟩]) (st.eq (by simp [cowO])) (fun o => l14Put_ok l (by omega) (by omega) w2 a' b' gs' l rs[q] o hgp) fun y cs1 w2 N2 hq2 st => ?_
    obtain ⟨hy1, hy2, gs2, hput, rfl⟩ := hq2
    obtain ⟨a2, b2, L2, k2⟩ := y
    simp only at hy1 hy2 hput st
    subst hy1 hy2
    rw [hgs] at hput
    simp only
    have hrow : (⟨3, 1, b2, ints rs⟩ : Ch) ∈ cowCh a2 gs2 ++ [⟨3, 1, b2, ints rs⟩] := by simp
    obtain ⟨bd2, hB2, _⟩ := (st.own.ok _ hrow).rd.addr (i := q) (by simp only; omega)
    simp only at hB2
    refine t_idx' q hB2 (by omega) (by omega) (by simp) ?_
    refine t_stcm (l1 := cowCh a2 gs2) (l2 := []) (c := ⟨3, 1, b2, ints rs⟩) (j := q) st hB2 (by simpa using hq) rfl fun w2 N2 st => ?_
    have hgs2 : pcs gs2 = (plRes (pcs gs) rs l q p leaf).1 := by rw [hpr, ← hput]
    replace st : Stt w [] (cowO a2 b2 gs2 (plRes (pcs gs) rs l q p leaf).2) w2 N2 := by
      refine st.eq ?_
      rw [hpr, ← hput]
      simp [cowO, ints]
    have hrw : RW w2 a2 b2 gs2 (plRes (pcs gs) rs l q p leaf).2 := Own_rw (rest := []) (st.eq (List.append_nil _).symm).own
    refine t_callp st (goodS_ok' hrw (kl_of hgs2 hkres)) fun w2 N2 st => ?_
    rw [hgs2]
    refine t_ite (fun h5 => ?_) (fun h5 => ?_)
    · exact hno (by rw [hres, if_neg (by simpa using h5)]) st
    · exact hR (a2, b2, l, true) _ _ _ _ st (pl_some hgs2 rfl rfl (by rw [hres, if_pos (by simpa using h5)])) rfl
end Go.Proofs.Ytboccoihmginiaa

namespace Go.Proofs.Ytboccoihmginiaa
open Go.RowKit Go.Sol
set_option linter.unusedVariables false
set_option linter.unusedSimpArgs false

/-- a result of PutLeaf, told plainly -/
def plFlat (L : Int) : Option (List PC × List Int) → List PC × List Int × Int × Bool
  | none => ([], [], 0, false)
  | some p => (p.1, p.2, L, true)
theorem plPost_st {w0 w : World} {N : NP} {cs1 rest : List Ch} {L : Int} {r : Option (List PC × List Int)} {y : Sl × Sl × Int × Bool} (h : plPost L r y cs1) (st : Stt w0 [] (cs1 ++ rest) w N) :
    ∃ gs', (pcs gs', (plFlat L r).2.1, y.2.2.1, y.2.2.2) = plFlat L r ∧ Stt w0 [] (cowO y.1 y.2.1 gs' (plFlat L r).2.1 ++ rest) w N := by
  cases r with
  | none =>
    obtain ⟨rfl, rfl⟩ := h
    refine ⟨[], rfl, ?_⟩
    exact ((st.triv 3 1 Sl.nil rfl rfl).triv 70 3 Sl.nil rfl rfl).eq rfl
  | some p =>
    obtain ⟨gs', h1, h2, rfl⟩ := h
    refine ⟨gs', ?_, st⟩
    simp only [plFlat, h1, h2]
theorem perm_rot {α : Type} (A B C : List α) : (A ++ (B ++ C)).Perm (B ++ (C ++ A)) := by
  rw [← List.append_assoc B]
  exact List.perm_append_comm
theorem markEnd_le {B : Nat} : ∀ (k : Nat) (gs : List GC), (∀ g ∈ gs, g.2.n ≤ B) → markEnd k gs ≤ k + gs.length * (2 + B)
  | k, [], _ => by simp [markEnd]
  | k, g :: gs, h => by
    have h1 := h g (List.mem_cons_self)
    have h2 := markEnd_le (k + 2 + g.2.n) gs fun x hx => h x (List.mem_cons_of_mem _ hx)
    rw [markEnd, List.length_cons, Nat.add_mul]
    omega
theorem RW.kn {w : World} {a b : Sl} {gs : List GC} {rs : List Int} (h : RW w a b gs rs) {B : Nat} (hk : ∀ g ∈ gs, g.1.k.length ≤ B) : ∀ g ∈ gs, g.2.n ≤ B := by
  intro g hg
  have h1 := (h.c.kd g hg).n1
  have h2 := hk g hg
  simp only [ints_len] at h1
  omega
theorem putLeaf_small {cs : List PC} {rs : List Int} {L root at_ : Int} {leaf : ByteArray} : (plFlat L (putLeafP cs rs L root at_ leaf)).1.length ≤ 1048576 ∧ (plFlat L (putLeafP cs rs L root at_ leaf)).2.1.length ≤ 1048576 ∧ ∀ c ∈ (plFlat L (putLeafP cs rs L root at_ leaf)).1, c.k.length ≤ 4 := by
  unfold putLeafP
  split
  · rename_i h1
    split
    · rename_i h2
      simp only [plFlat]
      have hr := rng_iff.1 (goodI_iff.1 h2).1
      unfold plAsk at h1
      simp only [Bool.and_eq_true, decide_eq_true_eq] at h1
      refine ⟨by omega, by omega, ?_⟩
      have hL := rng_iff.1 (goodI_iff.1 h1.1).1
      have e : ((L.toNat : Nat) : Int) = L := by omega
      exact plRes_kl (L := L.toNat) (by rw [e]; exact h1.1) (by omega)
    · simp [plFlat]
  · simp [plFlat]

theorem exact_ok {w : World} {a b : Sl} {gs : List GC} {rs : List Int} {L root at_ : Int} {leaf : ByteArray} (h : RW w a b gs rs) (hl : ∀ g ∈ gs, g.1.l.size ≤ maxLen) :
    Calls Try.prog 4 #[.agg #[Sl.v a, Sl.v b, .int .i64 L], .int .i64 root, .int .i64 at_, .string leaf] w fun e w' => e = .returned (.bool true) ∧ Below w.heap.size w w' := by
  refine run_pure (fun R => f4_laws_FnExactPutLeaf.ok R a b L root at_ leaf w) fun R hR w1 N1 st => ?_
  unfold f4_laws_FnExactPutLeaf.T
  refine t_ite (fun h1 => hR _ _ _ _ st rfl) (fun h1 => ?_)
  refine t_call (cs := []) (rest := []) st (fun _ => szCow_ok (h.st st) (by omega) (by omega) hl) fun y cs1 w2 N2 hp st => ?_
  obtain ⟨hsz, rfl⟩ := hp
  refine t_ite (fun h1 => hR _ _ _ _ st rfl) (fun h1 => ?_)
  obtain ⟨hg, hr, hk⟩ := hsz (by simpa using h1)
  have hg : gs.length ≤ 1048576 := by omega
  have hr : rs.length ≤ 1048576 := by omega
  have hk : ∀ g ∈ gs, g.1.k.length ≤ 1048576 := fun g hg => by have := hk g hg; omega
  have hkl : ∀ {gs' : List GC}, pcs gs' = pcs gs → ∀ g ∈ gs', g.1.k.length ≤ 1048576 := by
    intro gs' he g hg
    have : g.1 ∈ pcs gs' := List.mem_map.2 ⟨g, hg, rfl⟩
    rw [he] at this
    obtain ⟨x, hx, hxe⟩ := List.mem_map.1 this
    rw [← hxe]; exact hk x hx
  have hlen : ∀ {gs' : List GC}, pcs gs' = pcs gs → gs'.length = gs.length := by
    intro gs' he
    have := congrArg List.length he
    simpa using this
  -- the reference's
  refine t_call (cs := []) (rest := []) st (fun _ => toCow_ok (h.st st) hg hr hk) fun y cs1 w2 N2 hp st => ?_
  obtain ⟨gs1, hg1, hy1, rfl⟩ := hp
  obtain ⟨a1, b1, L1⟩ := y
  simp only at hy1 hg1 st
  subst hy1
  replace hg1 : pcs gs1 = pcs gs := hg1
  replace st := st.eq (List.append_nil _)
  simp only
  have rw1 : ∀ {w' N' rest}, Stt w [] (cowO a1 b1 gs1 rs ++ rest) w' N' → RW w' a1 b1 gs1 rs := fun st => Own_rw st.own
  refine t_call (cs := []) st (fun _ => PutLeafS_ok (rw1 (st.eq (List.append_nil _).symm)) (hkl hg1)) fun y cs1 w2 N2 hp st => ?_
  rw [hg1] at hp
  generalize hres : putLeafP (pcs gs) rs L1 root at_ leaf = res at *
  have hsm := putLeaf_small (cs := pcs gs) (rs := rs) (L := L1) (root := root) (at_ := at_) (leaf := leaf)
  rw [hres] at hsm
  obtain ⟨gsw, hw, st⟩ := plPost_st hp st
  obtain ⟨aw, bw, Lw, okw⟩ := y
  simp only at hw st ⊢
  clear hp
  -- the program's
  refine t_call (cs := []) st (fun _ => toCow_ok (h.st st) hg hr hk) fun y cs1 w2 N2 hp st => ?_
  obtain ⟨gs2, hg2, hy2, rfl⟩ := hp
  obtain ⟨a2, b2, L2⟩ := y
  simp only at hy2 hg2 st
  subst hy2
  replace hg2 : pcs gs2 = pcs gs := hg2
  simp only
  refine t_call (cs := []) st (fun _ => PutLeafI_ok (Own_rw st.own) (hkl hg2)) fun y cs1 w2 N2 hp st => ?_
  rw [hg2, hres] at hp
  obtain ⟨gsg, hgg, st⟩ := plPost_st hp st
  obtain ⟨ag, bg, Lg, okg⟩ := y
  simp only at hgg st ⊢
  clear hp
  rw [← hw] at hgg
  simp only [Prod.mk.injEq] at hgg
  obtain ⟨hgg1, hgg2, rfl, rfl⟩ := hgg
  have hpw : pcs gsw = (plFlat L2 res).1 := by rw [← hw]
  generalize hrr : (plFlat L2 res).2.1 = rr at *
  have hkg : ∀ g ∈ gsg, g.1.k.length ≤ 4 := by
    intro g hg
    refine hsm.2.2 _ ?_
    rw [← hpw, ← hgg1]
    exact List.mem_map.2 ⟨g, hg, rfl⟩
  have hlg : gsg.length ≤ 1048576 := by
    have := congrArg List.length (hgg1.trans hpw)
    rw [pcs_len] at this
    omega
  have heq : ∀ {w' : World} {g0 g1 g2 g3 : Sl} {gsx gsy : List GC} {rs : List Int} {L : Int}, pcs gsx = pcs gsy → RW w' g0 g1 gsx rs → RW w' g2 g3 gsy rs → Calls Try.prog 15 #[.agg #[Sl.v g0, Sl.v g1, .int .i64 L], .agg #[Sl.v g2, Sl.v g3, .int .i64 L]] w' fun e w2 => e = .returned (.bool true) ∧ Below w'.heap.size w' w2 := by
    intro w' g0 g1 g2 g3 gsx gsy rs L hx r1 r2
    refine (eqCow_ok r1 r2).mono fun e w2 h => ⟨?_, h.2⟩
    rw [h.1, decide_eq_true ⟨hx, rfl, rfl⟩]
  replace st : Stt w [] (cowO ag bg gsg rr ++ (cowO aw bw gsw rr ++ cowO a2 b2 gs2 rs)) w2 N2 := by
    have st2 : Stt w [] (cowO ag bg gsg rr ++ (cowO a2 b2 gs2 rs ++ (cowO aw bw gsw rr ++ cowO a1 b1 gs1 rs))) w2 N2 := st
    have st3 : Stt w [] (cowO ag bg gsg rr ++ (cowO a2 b2 gs2 rs ++ cowO aw bw gsw rr)) w2 N2 := st2.sub (List.Sublist.append (List.Sublist.refl _) (List.Sublist.append (List.Sublist.refl _) (List.sublist_append_left _ _)))
    exact st3.perm (List.Perm.append_left _ List.perm_append_comm)
  clear rw1
  have rwg : ∀ {w' N' x y}, Stt w [] (cowO ag bg gsg rr ++ (cowO aw bw gsw rr ++ x) ++ y) w' N' → RW w' ag bg gsg rr := fun st => Own_rw (st.left).own
  have rww : ∀ {w' N' x gsx rx}, Stt w [] (cowO ag bg gsx rx ++ (cowO aw bw gsw rr ++ x)) w' N' → RW w' aw bw gsw rr := fun st => Own_rw (st.sub (List.sublist_append_right _ _)).own
  have hb1 : ∀ {w' a b gs' rs'}, RW w' a b gs' rs' → (∀ g ∈ gs', g.1.k.length ≤ 1048576) → gs'.length ≤ 1048576 → rs'.length ≤ 1048576 → markEnd 1 gs' + rs'.length ≤ 2305843009213693952 := by
    intro w' a b gs' rs' r h1 h2 h3
    have h4 := markEnd_le 1 gs' (r.kn h1)
    have h5 : gs'.length * (2 + 1048576) ≤ 1048576 * (2 + 1048576) := Nat.mul_le_mul_right _ h2
    omega
  refine t_callp st (heq hgg1 (Own_rw st.own) (rww st)) fun w2 N2 st => ?_
  refine t_itef rfl ?_
  simp only [BEq.rfl, Bool.not_true]
  unfold f4_laws_FnExactPutLeaf.J1
  refine t_itef rfl ?_
  refine t_call (cs := []) st (fun _ => toCow_ok (h.st st) hg hr hk) fun y cs1 w2 N2 hp st => ?_
  obtain ⟨gs3, hg3, hy3, rfl⟩ := hp
  obtain ⟨a3, b3, L3⟩ := y
  simp only at hy3 hg3 st
  subst hy3
  replace hg3 : pcs gs3 = pcs gs := hg3
  simp only
  replace st : Stt w [] (cowO a3 b3 gs3 rs ++ (cowO ag bg gsg rr ++ (cowO aw bw gsw rr ++ cowO a2 b2 gs2 rs))) w2 N2 := st
  refine t_callp st (heq (hg2.trans hg3.symm) (Own_rw (rest := []) (((st.sub (List.sublist_append_right _ _)).sub (List.sublist_append_right _ _)).sub (List.sublist_append_right _ _) |>.eq (List.append_nil _).symm).own) (Own_rw st.own)) fun w2 N2 st => ?_
  refine t_itef rfl ?_
  replace st := st.sub (List.sublist_append_right (cowO a3 b3 gs3 rs) _)
  refine t_call (cs := cowO a2 b2 gs2 rs) (rest := cowO ag bg gsg rr ++ cowO aw bw gsw rr) (st.perm ?_) (fun o => markCow_ok (k := 1) o (hb1 (Own_rw (rest := []) (by simpa using o)) (hkl hg2) (by rw [hlen hg2]; exact hg) hr)) fun y cs1 w2 N2 hp st => ?_
  · exact perm_rot (cowO a2 b2 gs2 rs) (cowO ag bg gsg rr) (cowO aw bw gsw rr)
  obtain ⟨rfl, rfl⟩ := hp
  refine t_itef (decide_eq_false (by omega)) ?_
  replace st := st.sub (List.sublist_append_right _ _)
  replace st := st.eq (cs' := cowO ag bg gsg rr ++ (cowO aw bw gsw rr ++ [])) (by rw [List.append_nil])
  refine t_callp st (heq hgg1 (Own_rw st.own) (rww st)) fun w2 N2 st => ?_
  refine t_itef rfl ?_
  simp only [BEq.rfl, Bool.not_true]
  unfold f4_laws_FnExactPutLeaf.J2
  refine t_itef rfl ?_
  have hbg : markEnd 1 gsg + rr.length ≤ 2305843009213693952 := hb1 (Own_rw st.own) (fun g hg => by have := hkg g hg; omega) hlg hsm.2.1
  refine t_call (cs := cowO ag bg gsg rr) st (fun o => markCow_ok (k := 1) o hbg) fun y cs1 w2 N2 hp st => ?_
  obtain ⟨rfl, rfl⟩ := hp
  refine t_call (cs := []) st (fun o => heldCow_ok (Own_rw st.own) hbg) fun y cs1 w2 N2 hp st => ?_
  obtain ⟨rfl, rfl⟩ := hp
  refine t_itef (decide_eq_false (by omega)) (t_itef (by simp) ?_)
  refine t_call (cs := []) st (fun _ => toCow_ok (h.st st) hg hr hk) fun y cs1 w2 N2 hp st => ?_
  obtain ⟨gs4, hg4, hy4, rfl⟩ := hp
  obtain ⟨a4, b4, L4⟩ := y
  simp only at hy4 hg4 st
  subst hy4
  replace hg4 : pcs gs4 = pcs gs := hg4
  simp only
  refine t_call (cs := []) st (fun _ => PutLeafI_ok (Own_rw st.own) (hkl hg4)) fun y cs1 w2 N2 hp st => ?_
  rw [hg4, hres] at hp
  obtain ⟨gsh, hgh, st⟩ := plPost_st hp st
  obtain ⟨ah, bh, Lh, okh⟩ := y
  simp only at hgh st ⊢
  clear hp
  rw [hrr] at hgh st
  rw [← hw] at hgh
  simp only [Prod.mk.injEq] at hgh
  obtain ⟨hgh1, hgh2, e1, e2⟩ := hgh
  have e1 := e1.symm
  have e2 := e2.symm
  subst e1 e2
  replace st : Stt w [] (cowO ah bh gsh rr ++ (cowO a4 b4 gs4 rs ++ (cowO ag bg (markC 1 gsg) (seqI (markEnd 1 gsg) rr.length) ++ (cowO aw bw gsw rr ++ [])))) w2 N2 := st
  refine t_callp st (heq hgh1 (Own_rw st.own) (rww ((st.sub (List.sublist_append_right _ _)).sub (List.sublist_append_right _ _)))) fun w2 N2 st => ?_
  refine t_itef rfl ?_
  simp only [BEq.rfl, Bool.not_true]
  unfold f4_laws_FnExactPutLeaf.J3
  refine t_itef rfl ?_
  replace st := (st.sub (List.sublist_append_right _ _)).sub (List.sublist_append_right _ _)
  refine t_call (cs := []) st (fun o => heldCow_ok (Own_rw st.own) hbg) fun y cs1 w2 N2 hp st => ?_
  obtain ⟨rfl, rfl⟩ := hp
  refine t_itef (decide_eq_false (by omega)) (t_itef (by simp) ?_)
  exact hR _ _ _ _ st rfl
end Go.Proofs.Ytboccoihmginiaa
