/-
  Plain laws, the parser: the machine with two stacks answers as the descent does.
-/
import Derived.Test.Qxb6500272aGreatL4
namespace Go.Proofs.Qxb6500272aGreat
open Go
set_option linter.unusedVariables false
set_option linter.unusedSimpArgs false
section
variable {s : List UInt8}
theorem tok_at0 {i : Nat} (hi : i ≤ s.length) : (tok s i).at_ = (skip s i : Nat) := tok_at hi
theorem strT_op {t : TokT} (h : t.kind = 6) : strT t = s169 t.n := by unfold strT; rw [if_pos h]
theorem strT_no {t : TokT} (h : t.kind ≠ 6) : strT t = 0 := by unfold strT; rw [if_neg h]
theorem s169_1 {x : Int} : s169 x = 1 ↔ x ≤ 6 := by unfold s169; split <;> (try split) <;> omega
theorem s169_2 {x : Int} : s169 x = 2 ↔ 6 < x ∧ x ≤ 8 := by unfold s169; split <;> (try split) <;> omega
theorem s169_3 {x : Int} : s169 x = 3 ↔ 8 < x := by unfold s169; split <;> (try split) <;> omega
theorem strT_3 {i : Nat} : strT (tok s i) = 3 ↔ (tok s i).kind = 6 ∧ ((tok s i).n = 9 ∨ (tok s i).n = 10) := by
  by_cases h : (tok s i).kind = 6
  · rw [strT_op h, s169_3]
    have := (tok_pt s i).1 h
    constructor
    · intro _; exact ⟨h, by omega⟩
    · intro h2; omega
  · rw [strT_no h]
    constructor
    · intro h2; omega
    · intro h2; exact absurd h2.1 h
theorem strT_2 {i : Nat} : strT (tok s i) = 2 ↔ (tok s i).kind = 6 ∧ ((tok s i).n = 7 ∨ (tok s i).n = 8) := by
  by_cases h : (tok s i).kind = 6
  · rw [strT_op h, s169_2]
    constructor
    · intro _; exact ⟨h, by omega⟩
    · intro h2; omega
  · rw [strT_no h]
    constructor
    · intro h2; omega
    · intro h2; exact absurd h2.1 h
theorem strT_1 {i : Nat} : strT (tok s i) = 1 ↔ (tok s i).kind = 6 ∧ 1 ≤ (tok s i).n ∧ (tok s i).n ≤ 6 := by
  by_cases h : (tok s i).kind = 6
  · rw [strT_op h, s169_1]
    have := (tok_pt s i).1 h
    constructor
    · intro _; exact ⟨h, by omega⟩
    · intro h2; omega
  · rw [strT_no h]
    constructor
    · intro h2; omega
    · intro h2; exact absurd h2.1 h
theorem strT_bd (t : TokT) : 0 ≤ strT t ∧ strT t ≤ 3 := by
  unfold strT
  split
  · have := s169_bd t.n; omega
  · omega
theorem strO_push (op : Int) (O : List MarkT) : strO (⟨2, op, 0, 0, 0⟩ :: O) = s169 op := by
  show (if (2 : Int) = 2 then s169 op else 0) = _
  exact if_pos rfl
/-- The operator's step, no operator as strong waits. -/
theorem op_step {k i : Nat} (h : At s k i) (h1 : (tok s i).kind = 6) (ns : List NodeT) (a : Int) (V : List Int) (O : List MarkT) (g : strT (tok s i) ≠ 0) (g1 : strT (tok s i) < 2 → strO O ≠ 1) (g2 : strT (tok s i) < 3 → strO O ≠ 2) :
    (isR ns a = true ∧ Errs (s := s) (mk k i ns (a :: V) O true) 3 (Qxb6500272aGreat.skip s i : Nat)) ∨ (isR ns a = false ∧ At s (k + 1) (tok s i).end_.toNat ∧ RunsE (s := s) (mk k i ns (a :: V) O true) (mk (k + 1) (tok s i).end_.toNat ns (a :: V) (⟨2, (tok s i).n, 0, 0, 0⟩ :: O) false)) := by
  have h0 : (tok s i).kind ≠ 1 := by rw [h1]; decide
  have e : stepM (TT s) (mk k i ns (a :: V) O true) = opM (TT s) (tok s i) (mk k (Qxb6500272aGreat.skip s i) ns (a :: V) O true) := by
    rw [step_af h h0]
    unfold after1
    rw [if_neg (fun hh => g2 hh.1 hh.2)]
    unfold after2
    rw [if_neg (fun hh => g1 hh.1 hh.2)]
    unfold after3
    rw [if_neg g]
  have e2 : opM (TT s) (tok s i) (mk k (Qxb6500272aGreat.skip s i) ns (a :: V) O true) = if isR ns a = true then failM (mk k (Qxb6500272aGreat.skip s i) ns (a :: V) O true) 3 (tok s i).at_ else { pushM (takeM (TT s) (mk k (Qxb6500272aGreat.skip s i) ns (a :: V) O true)) ⟨2, (tok s i).n, 0, 0, 0⟩ with hv := false } := rfl
  rw [e2] at e
  by_cases hr : isR ns a = true
  · left
    rw [if_pos hr] at e
    refine ⟨hr, errs_step (by decide) ?_ ?_⟩
    · rw [e]; rfl
    · rw [e]; show (tok s i).at_ = _; exact tok_at h.le
  · right
    rw [if_neg hr] at e
    refine ⟨by simpa using hr, h.take (by rw [h1]; decide), oneE ?_⟩
    rw [e, take_mk h (by rw [h1]; decide)]
    rfl
theorem join_mk {k i : Nat} {ns : List NodeT} {a b op : Int} {V : List Int} {O : List MarkT} : (addD ns i (binN op a b) = .ok ((ns.length : Int), i, ns ++ [binN op a b]) ∧ joinM (mk k i ns (b :: a :: V) (⟨2, op, 0, 0, 0⟩ :: O) true) = mk k i (ns ++ [binN op a b]) ((ns.length : Int) :: V) O true) ∨
    (addD ns i (binN op a b) = .error (7, (i : Int)) ∧ (joinM (mk k i ns (b :: a :: V) (⟨2, op, 0, 0, 0⟩ :: O) true)).err = 7 ∧ (joinM (mk k i ns (b :: a :: V) (⟨2, op, 0, 0, 0⟩ :: O) true)).bad = (i : Int)) := by
  have e : joinM (mk k i ns (b :: a :: V) (⟨2, op, 0, 0, 0⟩ :: O) true) = { (addM (mk k i ns (a :: V) O true) (binN op a b)).1 with V := (addM (mk k i ns (a :: V) O true) (binN op a b)).2 :: V } := rfl
  rcases add_mk (k := k) (i := i) (ns := ns) (V := a :: V) (O := O) (hv := true) (binN op a b) with ⟨h1, h2⟩ | ⟨h1, h2⟩
  · left
    refine ⟨h1, ?_⟩
    rw [e, h2]; rfl
  · right
    refine ⟨h1, ?_⟩
    rw [e, h2]; exact ⟨rfl, rfl⟩
/-- A waiting + is joined before anything else is seen. -/
theorem join2_step {k i : Nat} (h : At s k i) (o : Out3 (s := s) i) (ns : List NodeT) (a b op : Int) (V : List Int) (O : List MarkT) (g2 : s169 op = 2) (n2 : strO O < 2) :
    (addD ns i (binN op a b) = .ok ((ns.length : Int), i, ns ++ [binN op a b]) ∧ RunsS (s := s) (mk k i ns (b :: a :: V) (⟨2, op, 0, 0, 0⟩ :: O) true) (mk k i (ns ++ [binN op a b]) ((ns.length : Int) :: V) O true)) ∨
    (addD ns i (binN op a b) = .error (7, (i : Int)) ∧ Errs (s := s) (mk k i ns (b :: a :: V) (⟨2, op, 0, 0, 0⟩ :: O) true) 7 i) := by
  have e : stepM (TT s) (mk k i ns (b :: a :: V) (⟨2, op, 0, 0, 0⟩ :: O) true) = after2 (TT s) (tok s i) (strT (tok s i)) (joinM (mk k i ns (b :: a :: V) (⟨2, op, 0, 0, 0⟩ :: O) true)) := by
    rw [step_af h o.1.2, o.1.1]
    unfold after1
    rw [if_pos ⟨o.2, (strO_push op O).trans g2⟩]
  rcases join_mk (k := k) (i := i) (ns := ns) (a := a) (b := b) (op := op) (V := V) (O := O) with ⟨h1, h2⟩ | ⟨h1, h2, h3⟩
  · left
    refine ⟨h1, same_step ?_⟩
    rw [e, h2, step_af h o.1.2, o.1.1]
    conv => rhs; unfold after1
    rw [if_neg (fun hh => by have : strO O = 2 := hh.2; omega)]
  · right
    have := after2_stuck (T := TT s) (t := tok s i) (s := strT (tok s i)) (M := joinM (mk k i ns (b :: a :: V) (⟨2, op, 0, 0, 0⟩ :: O) true)) (by rw [h2]; decide)
    exact ⟨h1, errs_step (by decide) (by rw [e, this.1, h2]) (by rw [e, this.2, h3])⟩
/-- A waiting comparison is joined, then the closing is seen. -/
theorem join1_step {k i : Nat} (h : At s k i) (o : Out2 (s := s) i) (ns : List NodeT) (a b op : Int) (V : List Int) (O : List MarkT) (g1 : s169 op = 1) :
    (addD ns i (binN op a b) = .ok ((ns.length : Int), i, ns ++ [binN op a b]) ∧ RunsE (s := s) (mk k i ns (b :: a :: V) (⟨2, op, 0, 0, 0⟩ :: O) true) (closeM (TT s) (tok s i) (mk k i (ns ++ [binN op a b]) ((ns.length : Int) :: V) O true))) ∨
    (addD ns i (binN op a b) = .error (7, (i : Int)) ∧ Errs (s := s) (mk k i ns (b :: a :: V) (⟨2, op, 0, 0, 0⟩ :: O) true) 7 i) := by
  have e : stepM (TT s) (mk k i ns (b :: a :: V) (⟨2, op, 0, 0, 0⟩ :: O) true) = closeM (TT s) (tok s i) (joinM (mk k i ns (b :: a :: V) (⟨2, op, 0, 0, 0⟩ :: O) true)) := by
    rw [step_af h o.1.2, o.1.1]
    unfold after1
    rw [if_neg (fun hh => by have h2 := (strO_push op O).symm.trans hh.2; omega)]
    unfold after2
    rw [if_pos ⟨o.2, (strO_push op O).trans g1⟩]
    unfold after3
    rw [if_pos rfl]
  rcases join_mk (k := k) (i := i) (ns := ns) (a := a) (b := b) (op := op) (V := V) (O := O) with ⟨h1, h2⟩ | ⟨h1, h2, h3⟩
  · left
    refine ⟨h1, oneE ?_⟩
    rw [e, h2]
  · right
    have := closeM_stuck (T := TT s) (t := tok s i) (M := joinM (mk k i ns (b :: a :: V) (⟨2, op, 0, 0, 0⟩ :: O) true)) (by rw [h2]; decide)
    exact ⟨h1, errs_step (by decide) (by rw [e, this.1, h2]) (by rw [e, this.2, h3])⟩
/-- Nothing waits: the closing is seen. -/
theorem close_step {k i : Nat} (h : At s k i) (o : Out2 (s := s) i) (ns : List NodeT) (a : Int) (V : List Int) (O : List MarkT) (g0 : strT (tok s i) = 0) (n0 : strO O = 0) :
    RunsE (s := s) (mk k i ns (a :: V) O true) (closeM (TT s) (tok s i) (mk k i ns (a :: V) O true)) := by
  refine oneE ?_
  rw [step_af h o.1.2, o.1.1]
  unfold after1
  rw [if_neg (fun hh => by have : strO O = 2 := hh.2; omega)]
  unfold after2
  rw [if_neg (fun hh => by have : strO O = 1 := hh.2; omega)]
  unfold after3
  rw [if_pos g0]
theorem finM_join {M : Mc} (h : strO M.O = 3) : finM M = { joinM M with hv := true } := by unfold finM; rw [if_pos h]
theorem finM_no {M : Mc} (h : strO M.O ≠ 3) : finM M = { M with hv := true } := by unfold finM; rw [if_neg h]
/-- A settled operand, no mark of its own waits. -/
theorem settle_mk {k i : Nat} {ns : List NodeT} {v : Int} {V : List Int} {O : List MarkT} {hv : Bool} (n : noneg O) (g : strO O < 3) : settleM (mk k i ns (v :: V) O hv) = mk k i ns (v :: V) O true := by
  rw [settle_fin (M := mk k i ns (v :: V) O hv) n, finM_no (by show ¬ strO O = 3; omega)]
  rfl
/-- A settled operand under a product. -/
theorem settle3 {k i : Nat} {ns : List NodeT} {a b op : Int} {V : List Int} {O : List MarkT} {hv : Bool} (g : s169 op = 3) :
    (addD ns i (binN op a b) = .ok ((ns.length : Int), i, ns ++ [binN op a b]) ∧ settleM (mk k i ns (b :: a :: V) (⟨2, op, 0, 0, 0⟩ :: O) hv) = mk k i (ns ++ [binN op a b]) ((ns.length : Int) :: V) O true) ∨
    (addD ns i (binN op a b) = .error (7, (i : Int)) ∧ (settleM (mk k i ns (b :: a :: V) (⟨2, op, 0, 0, 0⟩ :: O) hv)).err = 7 ∧ (settleM (mk k i ns (b :: a :: V) (⟨2, op, 0, 0, 0⟩ :: O) hv)).bad = (i : Int)) := by
  have e : settleM (mk k i ns (b :: a :: V) (⟨2, op, 0, 0, 0⟩ :: O) hv) = { joinM (mk k i ns (b :: a :: V) (⟨2, op, 0, 0, 0⟩ :: O) hv) with hv := true } := by
    rw [settle_fin (fun m O' h => by
      have h : (⟨2, op, 0, 0, 0⟩ : MarkT) :: O = m :: O' := h
      injection h with h _
      rw [← h]
      show (2 : Int) ≠ 1
      decide)]
    rw [finM_join ((strO_push op O).trans g)]
  have e2 : joinM (mk k i ns (b :: a :: V) (⟨2, op, 0, 0, 0⟩ :: O) hv) = { (addM (mk k i ns (a :: V) O hv) (binN op a b)).1 with V := (addM (mk k i ns (a :: V) O hv) (binN op a b)).2 :: V } := rfl
  rcases add_mk (k := k) (i := i) (ns := ns) (V := a :: V) (O := O) (hv := hv) (binN op a b) with ⟨h1, h2⟩ | ⟨h1, h2⟩
  · left
    refine ⟨h1, ?_⟩
    rw [e, e2, h2]; rfl
  · right
    refine ⟨h1, ?_⟩
    rw [e, e2, h2]; exact ⟨rfl, rfl⟩
/-- A settled operand under a sign. -/
theorem settle1 {M : Mc} {k i : Nat} {ns : List NodeT} {v : Int} {V : List Int} {O : List MarkT} {hv : Bool} (a : At s k i) (h : RunsS (s := s) M (settleM (mk k i ns (v :: V) (⟨1, 0, 0, 0, 0⟩ :: O) hv))) : SimA (s := s) M V O (addD ns i (negN v)) := by
  have e : settleM (mk k i ns (v :: V) (⟨1, 0, 0, 0, 0⟩ :: O) hv) = settleM { (addM (mk k i ns (v :: V) O hv) (negN v)).1 with V := (addM (mk k i ns (v :: V) O hv) (negN v)).2 :: V } := settle_neg rfl rfl rfl
  rw [e] at h
  rcases add_mk (k := k) (i := i) (ns := ns) (V := v :: V) (O := O) (hv := hv) (negN v) with ⟨h1, h2⟩ | ⟨h1, h2⟩
  · rw [h1]
    rw [h2] at h
    exact ⟨k, hv, a, h⟩
  · rw [h1]
    rw [h2] at h
    have := settleM_stuck (M := { mk k i ns (-1 :: V) O hv with err := 7, bad := (i : Int) }) (show (7 : Int) ≠ 0 by decide)
    exact h.errs (errs_now (by decide) this.1 this.2)

theorem ranges2 (op : Int) (O : List MarkT) : false = rangesO (⟨2, op, 0, 0, 0⟩ :: O) := by
  show false = if (2 : Int) = 4 then s209 op else false
  exact (if_neg (by decide)).symm
/-! ### By the fuel -/
variable {m : Nat}
theorem sim_loop3 (A : SimAll (s := s) m) (a : Int) (k i : Nat) (ns : List NodeT) (V : List Int) (O : List MarkT) (x : DRes) (h : At s k i) (n : noneg O) (g : strO O < 3) (d : D s (m + 1) (.loop3 a) i ns = some x) : SimL (s := s) (Out3 (s := s)) (mk k i ns (a :: V) O true) V O x := by
  have d : (if (tok s i).kind = 1 then some (.error (2, (skip s i : Nat)))
      else if (tok s i).kind = 6 ∧ ((tok s i).n = 9 ∨ (tok s i).n = 10) then
        if isR ns a = true then some (.error (3, (skip s i : Nat)))
        else bindD (D s m (.unary false) (tok s i).end_.toNat ns) fun b j ns => bindD (some (addD ns j (binN (tok s i).n a b))) fun v k ns => D s m (.loop3 v) k ns
      else some (.ok (a, skip s i, ns))) = some x := d
  by_cases c1 : (tok s i).kind = 1
  · rw [if_pos c1] at d
    injection d with d
    subst d
    exact bad_af h c1 ns _ O
  rw [if_neg c1] at d
  by_cases c3 : (tok s i).kind = 6 ∧ ((tok s i).n = 9 ∨ (tok s i).n = 10)
  · rw [if_pos c3] at d
    have h3 := strT_3.2 c3
    rcases op_step h c3.1 ns a V O (by omega) (by omega) (by omega) with ⟨hr, he⟩ | ⟨hr, ha, hrun⟩
    · rw [if_pos hr] at d
      injection d with d
      subst d
      exact he
    · rw [if_neg (by rw [hr]; decide)] at d
      rcases bindD_some d with ⟨e, p, d1, rfl⟩ | ⟨b, j, ns1, d1, d2⟩
      · exact hrun.errs (A.unary _ _ _ _ (a :: V) (⟨2, (tok s i).n, 0, 0, 0⟩ :: O) _ ha (ranges2 _ _) d1)
      · obtain ⟨k1, hv1, a1, r1⟩ := A.unary _ _ _ _ (a :: V) (⟨2, (tok s i).n, 0, 0, 0⟩ :: O) _ ha (ranges2 _ _) d1
        have g3 : s169 (tok s i).n = 3 := by rw [← strT_op c3.1]; exact h3
        have r2 := hrun.thenS r1
        rcases settle3 (k := k1) (i := j) (ns := ns1) (a := a) (b := b) (V := V) (O := O) (hv := hv1) g3 with ⟨e1, e2⟩ | ⟨e1, e2, e3⟩
        · rw [e1] at d2
          rw [e2] at r2
          exact SimL.pre r2 (A.loop3 _ _ _ _ V O _ a1 n g d2)
        · rw [e1] at d2
          have d2 : some (Except.error (7, (j : Int))) = some x := d2
          injection d2 with d2
          subst d2
          exact r2.errs (errs_now (by decide) e2 e3)
  · rw [if_neg c3] at d
    injection d with d
    subst d
    refine ⟨k, h.skip, ⟨⟨skip_skip s i, by rw [tok_skip]; exact c1⟩, ?_⟩, same_af h c1 ns _ O⟩
    have := strT_bd (tok s i)
    have h3 : strT (tok s i) ≠ 3 := fun hh => c3 (strT_3.1 hh)
    rw [tok_skip]
    omega
theorem sim_chain3 (A : SimAll (s := s) m) (r : Bool) (k i : Nat) (ns : List NodeT) (V : List Int) (O : List MarkT) (x : DRes) (h : At s k i) (hr : r = rangesO O) (n : noneg O) (g : strO O < 3) (d : D s (m + 1) (.chain3 r) i ns = some x) : SimL (s := s) (Out3 (s := s)) (mk k i ns V O false) V O x := by
  have d : bindD (D s m (.unary r) i ns) (fun a i ns => D s m (.loop3 a) i ns) = some x := d
  rcases bindD_some d with ⟨e, p, d1, rfl⟩ | ⟨b, j, ns1, d1, d2⟩
  · exact A.unary _ _ _ _ _ _ _ h hr d1
  · obtain ⟨k1, hv1, a1, r1⟩ := A.unary _ _ _ _ V O _ h hr d1
    rw [settle_mk n g] at r1
    exact SimL.pre r1 (A.loop3 _ _ _ _ V O _ a1 n g d2)
theorem sim_loop2 (A : SimAll (s := s) m) (a : Int) (k i : Nat) (ns : List NodeT) (V : List Int) (O : List MarkT) (x : DRes) (h : At s k i) (n : noneg O) (g : strO O < 2) (h3 : strT (tok s i) < 3) (d : D s (m + 1) (.loop2 a) i ns = some x) : SimL (s := s) (Out2 (s := s)) (mk k i ns (a :: V) O true) V O x := by
  have d : (if (tok s i).kind = 1 then some (.error (2, (skip s i : Nat)))
      else if (tok s i).kind = 6 ∧ ((tok s i).n = 7 ∨ (tok s i).n = 8) then
        if isR ns a = true then some (.error (3, (skip s i : Nat)))
        else bindD (D s m (.chain3 false) (tok s i).end_.toNat ns) fun b j ns => bindD (some (addD ns j (binN (tok s i).n a b))) fun v k ns => D s m (.loop2 v) k ns
      else some (.ok (a, skip s i, ns))) = some x := d
  by_cases c1 : (tok s i).kind = 1
  · rw [if_pos c1] at d
    injection d with d
    subst d
    exact bad_af h c1 ns _ O
  rw [if_neg c1] at d
  by_cases c3 : (tok s i).kind = 6 ∧ ((tok s i).n = 7 ∨ (tok s i).n = 8)
  · rw [if_pos c3] at d
    have h2 := strT_2.2 c3
    rcases op_step h c3.1 ns a V O (by omega) (by omega) (by omega) with ⟨hr, he⟩ | ⟨hr, ha, hrun⟩
    · rw [if_pos hr] at d
      injection d with d
      subst d
      exact he
    · rw [if_neg (by rw [hr]; decide)] at d
      have g2 : s169 (tok s i).n = 2 := by rw [← strT_op c3.1]; exact h2
      have n1 : noneg (⟨2, (tok s i).n, 0, 0, 0⟩ :: O) := fun m O' h => by
        injection h with h _
        rw [← h]
        show (2 : Int) ≠ 1
        decide
      rcases bindD_some d with ⟨e, p, d1, rfl⟩ | ⟨b, j, ns1, d1, d2⟩
      · exact hrun.errs (A.chain3 _ _ _ _ (a :: V) (⟨2, (tok s i).n, 0, 0, 0⟩ :: O) _ ha (ranges2 _ _) n1 (by rw [strO_push, g2]; decide) d1)
      · obtain ⟨k1, a1, o1, r1⟩ := A.chain3 _ _ _ _ (a :: V) (⟨2, (tok s i).n, 0, 0, 0⟩ :: O) _ ha (ranges2 _ _) n1 (by rw [strO_push, g2]; decide) d1
        have r2 := hrun.thenS r1
        rcases join2_step a1 o1 ns1 a b (tok s i).n V O g2 g with ⟨e1, e2⟩ | ⟨e1, e2⟩
        · rw [e1] at d2
          exact SimL.pre (r2.trans e2) (A.loop2 _ _ _ _ V O _ a1 n g o1.2 d2)
        · rw [e1] at d2
          have d2 : some (Except.error (7, (j : Int))) = some x := d2
          injection d2 with d2
          subst d2
          exact r2.errs e2
  · rw [if_neg c3] at d
    injection d with d
    subst d
    refine ⟨k, h.skip, ⟨⟨skip_skip s i, by rw [tok_skip]; exact c1⟩, ?_⟩, same_af h c1 ns _ O⟩
    have := strT_bd (tok s i)
    have h2 : strT (tok s i) ≠ 2 := fun hh => c3 (strT_2.1 hh)
    rw [tok_skip]
    omega
theorem sim_chain2 (A : SimAll (s := s) m) (r : Bool) (k i : Nat) (ns : List NodeT) (V : List Int) (O : List MarkT) (x : DRes) (h : At s k i) (hr : r = rangesO O) (n : noneg O) (g : strO O < 2) (d : D s (m + 1) (.chain2 r) i ns = some x) : SimL (s := s) (Out2 (s := s)) (mk k i ns V O false) V O x := by
  have d : bindD (D s m (.chain3 r) i ns) (fun a i ns => D s m (.loop2 a) i ns) = some x := d
  rcases bindD_some d with ⟨e, p, d1, rfl⟩ | ⟨b, j, ns1, d1, d2⟩
  · exact A.chain3 _ _ _ _ _ _ _ h hr n (by omega) d1
  · obtain ⟨k1, a1, o1, r1⟩ := A.chain3 _ _ _ _ V O _ h hr n (by omega) d1
    exact SimL.pre r1 (A.loop2 _ _ _ _ V O _ a1 n g o1.2 d2)
theorem SimE.preS {M N : Mc} {V : List Int} {O : List MarkT} {x : DRes} (h : RunsS (s := s) M N) (k : SimE (s := s) N V O x) : SimE (s := s) M V O x := by
  match x with
  | .error (e, p) => exact h.errs k
  | .ok (v, i, ns) => obtain ⟨k', a, o, r⟩ := k; exact ⟨k', a, o, h.thenE r⟩
theorem sim_expr (A : SimAll (s := s) m) (r : Bool) (k i : Nat) (ns : List NodeT) (V : List Int) (O : List MarkT) (x : DRes) (h : At s k i) (hr : r = rangesO O) (n : noneg O) (g : strO O = 0) (d : D s (m + 1) (.expr r) i ns = some x) : SimE (s := s) (mk k i ns V O false) V O x := by
  have d : bindD (D s m (.chain2 r) i ns) (fun a i ns =>
      if (tok s i).kind = 6 ∧ 1 ≤ (tok s i).n ∧ (tok s i).n ≤ 6 then
        if isR ns a = true then some (.error (3, (skip s i : Nat)))
        else bindD (D s m (.chain2 false) (tok s i).end_.toNat ns) fun b j ns => some (addD ns j (binN (tok s i).n a b))
      else some (.ok (a, i, ns))) = some x := d
  rcases bindD_some d with ⟨e, p, d1, rfl⟩ | ⟨a, i1, ns1, d1, d2⟩
  · exact A.chain2 _ _ _ _ _ _ _ h hr n (by omega) d1
  · obtain ⟨k1, a1, o1, r1⟩ := A.chain2 _ _ _ _ V O _ h hr n (by omega) d1
    by_cases c3 : (tok s i1).kind = 6 ∧ 1 ≤ (tok s i1).n ∧ (tok s i1).n ≤ 6
    · rw [if_pos c3] at d2
      have h1 := strT_1.2 c3
      rcases op_step a1 c3.1 ns1 a V O (by omega) (by omega) (by omega) with ⟨hr, he⟩ | ⟨hr, ha, hrun⟩
      · rw [if_pos hr] at d2
        injection d2 with d2
        subst d2
        exact r1.errs he
      · rw [if_neg (by rw [hr]; decide)] at d2
        have g1 : s169 (tok s i1).n = 1 := by rw [← strT_op c3.1]; exact h1
        have n1 : noneg (⟨2, (tok s i1).n, 0, 0, 0⟩ :: O) := fun m O' h => by
          injection h with h _
          rw [← h]
          show (2 : Int) ≠ 1
          decide
        rcases bindD_some d2 with ⟨e, p, d3, rfl⟩ | ⟨b, j, ns2, d3, d4⟩
        · exact r1.errs (hrun.errs (A.chain2 _ _ _ _ (a :: V) (⟨2, (tok s i1).n, 0, 0, 0⟩ :: O) _ ha (ranges2 _ _) n1 (by rw [strO_push, g1]; decide) d3))
        · obtain ⟨k2, a2, o2, r2⟩ := A.chain2 _ _ _ _ (a :: V) (⟨2, (tok s i1).n, 0, 0, 0⟩ :: O) _ ha (ranges2 _ _) n1 (by rw [strO_push, g1]; decide) d3
          have r3 := r1.trans (hrun.thenS r2)
          injection d4 with d4
          subst d4
          rcases join1_step a2 o2 ns2 a b (tok s i1).n V O g1 with ⟨e1, e2⟩ | ⟨e1, e2⟩
          · rw [e1]
            exact ⟨k2, a2, o2.1, r3.thenE e2⟩
          · rw [e1]
            exact r3.errs e2
    · rw [if_neg c3] at d2
      injection d2 with d2
      subst d2
      have := strT_bd (tok s i1)
      have h1 : strT (tok s i1) ≠ 1 := fun hh => c3 (strT_1.1 hh)
      have := o1.2
      exact ⟨k1, a1, o1.1, r1.thenE (close_step a1 o1 ns1 a V O (by omega) g)⟩
theorem mark_push {M : Mc} {k i : Nat} {ns : List NodeT} {V : List Int} {O : List MarkT} (h : At s k i) (h0 : (tok s i).kind ≠ 0) (i0 : Nat) (m : MarkT) : pushM (takeM (TT s) (mk k i0 ns V O false)) m = mk (k + 1) (tok s i).end_.toNat ns V (m :: O) false := by
  rw [take_mk h h0]; rfl
theorem sim_unary (A : SimAll (s := s) m) (r : Bool) (k i : Nat) (ns : List NodeT) (V : List Int) (O : List MarkT) (x : DRes) (h : At s k i) (hr : r = rangesO O) (d : D s (m + 1) (.unary r) i ns = some x) : SimA (s := s) (mk k i ns V O false) V O x := by
  have d : (if (tok s i).kind = 1 then some (.error (2, (skip s i : Nat)))
      else if (tok s i).kind = 6 ∧ (tok s i).n = 8 then bindD (D s m (.unary false) (tok s i).end_.toNat ns) fun v j ns => some (addD ns j (negN v))
      else D s m (.atom r) (skip s i) ns) = some x := d
  by_cases c1 : (tok s i).kind = 1
  · rw [if_pos c1] at d
    injection d with d
    subst d
    exact bad_at h c1 ns V O
  rw [if_neg c1] at d
  by_cases c6 : (tok s i).kind = 6 ∧ (tok s i).n = 8
  · rw [if_pos c6] at d
    have e : stepM (TT s) (mk k i ns V O false) = mk (k + 1) (tok s i).end_.toNat ns V (⟨1, 0, 0, 0, 0⟩ :: O) false := by
      rw [step_at h c1]
      unfold atomB
      rw [if_neg (by rw [c6.1]; decide), if_neg (by rw [c6.1]; decide), if_neg (by rw [c6.1]; decide), if_neg (by rw [c6.1]; decide), if_neg (by rw [c6.1]; decide), if_pos c6.1, if_pos c6.2]
      exact mark_push (M := mk k i ns V O false) h (by rw [c6.1]; decide) _ _
    have r1 := oneE e
    have ha : At s (k + 1) (tok s i).end_.toNat := h.take (by rw [c6.1]; decide)
    have hr1 : false = rangesO (⟨1, 0, 0, 0, 0⟩ :: O) := by
      show false = if (1 : Int) = 4 then s209 0 else false
      exact (if_neg (by decide)).symm
    rcases bindD_some d with ⟨e, p, d1, rfl⟩ | ⟨v, j, ns1, d1, d2⟩
    · exact r1.errs (A.unary _ _ _ _ V (⟨1, 0, 0, 0, 0⟩ :: O) _ ha hr1 d1)
    · obtain ⟨k2, hv2, a2, r2⟩ := A.unary _ _ _ _ V (⟨1, 0, 0, 0, 0⟩ :: O) _ ha hr1 d1
      injection d2 with d2
      subst d2
      exact settle1 a2 (r1.thenS r2)
  · rw [if_neg c6] at d
    exact SimA.pre (same_at h c1 ns V O) (A.atom r k _ ns V O x h.skip hr (by rw [tok_skip]; exact c6) d)
theorem failB {k i : Nat} {ns : List NodeT} {V : List Int} {O : List MarkT} {hv hv' : Bool} {k' i' : Nat} {ns' : List NodeT} {V' : List Int} {O' : List MarkT} {e p : Int} (he : e ≠ 0) (h : stepM (TT s) (mk k i ns V O hv) = failM (mk k' i' ns' V' O' hv') e p) : Errs (s := s) (mk k i ns V O hv) e p :=
  errs_step he (by rw [h]; rfl) (by rw [h]; rfl)
theorem stuckB {k i : Nat} {ns : List NodeT} {V : List Int} {O : List MarkT} {hv : Bool} {M N : Mc} {e p : Int} (he : e ≠ 0) (h : stepM (TT s) (mk k i ns V O hv) = N) (g : Stuck M N) (h1 : M.err = e) (h2 : M.bad = p) : Errs (s := s) (mk k i ns V O hv) e p :=
  errs_step he (by rw [h, g.1, h1]) (by rw [h, g.2, h2])
/-- A reference's step. -/
theorem sim_ref (r : Bool) (k i : Nat) (ns : List NodeT) (V : List Int) (O : List MarkT) (x : DRes) (h : At s k i) (hr : r = rangesO O) (c4 : (tok s i).kind = 4)
    (e : stepM (TT s) (mk k i ns V O false) = refM (TT s) (tok s i) (mk k (Qxb6500272aGreat.skip s i) ns V O false))
    (d : (if (tok s (tok s i).end_.toNat).kind = 1 then some (Except.error (2, ((skip s (tok s i).end_.toNat : Nat) : Int)))
        else if (tok s (tok s i).end_.toNat).kind = 58 then
          if (tok s (tok s (tok s i).end_.toNat).end_.toNat).kind = 1 then some (.error (2, (skip s (tok s (tok s i).end_.toNat).end_.toNat : Nat)))
          else if (tok s (tok s (tok s i).end_.toNat).end_.toNat).kind = 4 then if r = true then some (addD ns (tok s (tok s (tok s i).end_.toNat).end_.toNat).end_.toNat (rangeN (tok s i).r (tok s (tok s (tok s i).end_.toNat).end_.toNat).r)) else some (.error (6, (skip s i : Nat)))
          else some (.error (3, (skip s (tok s (tok s i).end_.toNat).end_.toNat : Nat)))
        else some (addD ns (skip s (tok s i).end_.toNat) (refN (tok s i).r))) = some x) : SimA (s := s) (mk k i ns V O false) V O x := by
  have a1 : At s (k + 1) (tok s i).end_.toNat := h.take (by rw [c4]; decide)
  generalize hi1 : (tok s i).end_.toNat = i1 at a1 d
  have t1 : takeM (TT s) (mk k (Qxb6500272aGreat.skip s i) ns V O false) = mk (k + 1) i1 ns V O false := by rw [take_mk h (by rw [c4]; decide), hi1]
  have u1 : TT s ((mk k (Qxb6500272aGreat.skip s i) ns V O false).k + 1) = tok s i1 := a1.tt
  unfold refM at e
  simp only [t1, u1] at e
  by_cases c1 : (tok s i1).kind = 1
  · rw [if_pos c1] at d
    injection d with d
    subst d
    rw [if_neg (by rw [c1]; decide), look_bad a1 c1] at e
    exact stuckB (by decide) e (wholeM_stuck (M := { mk (k + 1) (Qxb6500272aGreat.skip s i1) ns V O false with err := 2, bad := (Qxb6500272aGreat.skip s i1 : Nat) }) (show (2 : Int) ≠ 0 by decide) _) rfl rfl
  rw [if_neg c1] at d
  rw [look_ok' a1 c1] at e
  by_cases c58 : (tok s i1).kind = 58
  · rw [if_pos c58] at d e
    have a2 : At s (k + 1 + 1) (tok s i1).end_.toNat := a1.take (by rw [c58]; decide)
    generalize hi2 : (tok s i1).end_.toNat = i2 at a2 d
    have t2 : takeM (TT s) (mk (k + 1) (Qxb6500272aGreat.skip s i1) ns V O false) = mk (k + 1 + 1) i2 ns V O false := by rw [take_mk a1 (by rw [c58]; decide), hi2]
    have u2 : TT s ((mk k (Qxb6500272aGreat.skip s i) ns V O false).k + 2) = tok s i2 := a2.tt
    simp only [t2, u2] at e
    by_cases d1 : (tok s i2).kind = 1
    · rw [if_pos d1] at d
      injection d with d
      subst d
      rw [if_neg (by rw [d1]; decide), look_bad a2 d1, failM_stuck (M := { mk (k + 1 + 1) (Qxb6500272aGreat.skip s i2) ns V O false with err := 2, bad := (Qxb6500272aGreat.skip s i2 : Nat) }) (show (2 : Int) ≠ 0 by decide)] at e
      exact errs_step (by decide) (by rw [e]) (by rw [e])
    rw [if_neg d1] at d
    rw [look_ok' a2 d1] at e
    by_cases d4 : (tok s i2).kind = 4
    · rw [if_pos d4] at d e
      have a3 : At s (k + 1 + 1 + 1) (tok s i2).end_.toNat := a2.take (by rw [d4]; decide)
      rw [take_mk a2 (by rw [d4]; decide)] at e
      have hro : rangesO (mk k (Qxb6500272aGreat.skip s i) ns V O false).O = r := hr.symm
      rw [hro] at e
      by_cases hrr : r = true
      · rw [if_pos hrr] at d e
        injection d with d
        subst d
        exact whole_sim (oneE e) a3
      · rw [if_neg hrr] at d e
        injection d with d
        subst d
        rw [tok_at0 h.le] at e
        exact failB (by decide) e
    · rw [if_neg d4] at d e
      injection d with d
      subst d
      rw [tok_at0 a2.le] at e
      exact failB (by decide) e
  · rw [if_neg c58] at d e
    injection d with d
    subst d
    exact whole_sim (oneE e) a1.skip
theorem sim_call (A : SimAll (s := s) m) (k i : Nat) (ns : List NodeT) (V : List Int) (O : List MarkT) (x : DRes) (h : At s k i) (c5 : (tok s i).kind = 5)
    (e : stepM (TT s) (mk k i ns V O false) = callM (TT s) (tok s i) (mk k (Qxb6500272aGreat.skip s i) ns V O false))
    (d : (if (tok s (tok s i).end_.toNat).kind = 1 then some (Except.error (2, ((skip s (tok s i).end_.toNat : Nat) : Int)))
        else if (tok s (tok s i).end_.toNat).kind = 40 then
          if (tok s (tok s (tok s i).end_.toNat).end_.toNat).kind = 1 then some (.error (2, (skip s (tok s (tok s i).end_.toNat).end_.toNat : Nat)))
          else if (tok s (tok s (tok s i).end_.toNat).end_.toNat).kind = 41 then some (.error (6, (skip s i : Nat)))
          else D s m (.args (tok s i).n (skip s i : Nat) 0 (-1)) (skip s (tok s (tok s i).end_.toNat).end_.toNat) ns
        else some (.error (5, (skip s i : Nat)))) = some x) : SimA (s := s) (mk k i ns V O false) V O x := by
  have a1 : At s (k + 1) (tok s i).end_.toNat := h.take (by rw [c5]; decide)
  generalize hi1 : (tok s i).end_.toNat = i1 at a1 d
  have t1 : takeM (TT s) (mk k (Qxb6500272aGreat.skip s i) ns V O false) = mk (k + 1) i1 ns V O false := by rw [take_mk h (by rw [c5]; decide), hi1]
  have u1 : TT s ((mk k (Qxb6500272aGreat.skip s i) ns V O false).k + 1) = tok s i1 := a1.tt
  unfold callM at e
  simp only [t1, u1] at e
  by_cases c1 : (tok s i1).kind = 1
  · rw [if_pos c1] at d
    injection d with d
    subst d
    rw [if_neg (by rw [c1]; decide), look_bad a1 c1, failM_stuck (M := { mk (k + 1) (Qxb6500272aGreat.skip s i1) ns V O false with err := 2, bad := (Qxb6500272aGreat.skip s i1 : Nat) }) (show (2 : Int) ≠ 0 by decide)] at e
    exact errs_step (by decide) (by rw [e]) (by rw [e])
  rw [if_neg c1] at d
  rw [look_ok' a1 c1] at e
  by_cases c40 : (tok s i1).kind = 40
  · rw [if_pos c40] at d e
    have a2 : At s (k + 1 + 1) (tok s i1).end_.toNat := a1.take (by rw [c40]; decide)
    generalize hi2 : (tok s i1).end_.toNat = i2 at a2 d
    have t2 : takeM (TT s) (mk (k + 1) (Qxb6500272aGreat.skip s i1) ns V O false) = mk (k + 1 + 1) i2 ns V O false := by rw [take_mk a1 (by rw [c40]; decide), hi2]
    have u2 : TT s ((mk k (Qxb6500272aGreat.skip s i) ns V O false).k + 2) = tok s i2 := a2.tt
    simp only [t2, u2] at e
    by_cases d1 : (tok s i2).kind = 1
    · rw [if_pos d1] at d
      injection d with d
      subst d
      rw [if_neg (by rw [d1]; decide), look_bad a2 d1] at e
      exact errs_step (by decide) (by rw [e]; rfl) (by rw [e]; rfl)
    rw [if_neg d1] at d
    rw [look_ok' a2 d1] at e
    by_cases d4 : (tok s i2).kind = 41
    · rw [if_pos d4] at d e
      injection d with d
      subst d
      rw [tok_at0 h.le] at e
      exact failB (by decide) e
    · rw [if_neg d4] at d e
      rw [tok_at0 h.le] at e
      have e : stepM (TT s) (mk k i ns V O false) = mk (k + 1 + 1) (Qxb6500272aGreat.skip s i2) ns V (⟨4, (tok s i).n, (Qxb6500272aGreat.skip s i : Nat), 0, -1⟩ :: O) false := e
      exact SimA.pre (oneE e).toS (A.args _ _ _ _ _ _ _ V O x a2.skip d)
  · rw [if_neg c40] at d e
    injection d with d
    subst d
    rw [tok_at0 h.le] at e
    exact failB (by decide) e
theorem sim_atom (A : SimAll (s := s) m) (r : Bool) (k i : Nat) (ns : List NodeT) (V : List Int) (O : List MarkT) (x : DRes) (h : At s k i) (hr : r = rangesO O) (hn : ¬ ((tok s i).kind = 6 ∧ (tok s i).n = 8)) (d : D s (m + 1) (.atom r) i ns = some x) : SimA (s := s) (mk k i ns V O false) V O x := by
  unfold D at d
  simp only at d
  by_cases c1 : (tok s i).kind = 1
  · rw [if_pos c1] at d
    injection d with d
    subst d
    exact bad_at h c1 ns V O
  rw [if_neg c1] at d
  have e := step_at h c1 ns V O
  unfold atomB at e
  by_cases c2 : (tok s i).kind = 2
  · rw [if_pos c2] at d e
    injection d with d
    subst d
    rw [take_mk h (by rw [c2]; decide)] at e
    exact whole_sim (oneE e) (h.take (by rw [c2]; decide))
  rw [if_neg c2] at d e
  by_cases c3 : (tok s i).kind = 3
  · rw [if_pos c3] at d
    injection d with d
    subst d
    rw [if_neg (by rw [c3]; decide), if_neg (by rw [c3]; decide), if_neg (by rw [c3]; decide), if_pos c3, tok_at0 h.le] at e
    exact failB ((tok_pt s i).2 c3) e
  rw [if_neg c3] at d
  by_cases c4 : (tok s i).kind = 4
  · rw [if_pos c4] at d e
    exact sim_ref r k i ns V O x h hr c4 e d
  rw [if_neg c4] at d e
  by_cases c5 : (tok s i).kind = 5
  · rw [if_pos c5] at d e
    exact sim_call A k i ns V O x h c5 e d
  rw [if_neg c5] at d e
  by_cases c40 : (tok s i).kind = 40
  · rw [if_pos c40] at d e
    have ha : At s (k + 1) (tok s i).end_.toNat := h.take (by rw [c40]; decide)
    rw [mark_push (M := mk k i ns V O false) h (by rw [c40]; decide)] at e
    have hr1 : false = rangesO (⟨3, 0, 0, 0, 0⟩ :: O) := by
      show false = if (3 : Int) = 4 then s209 0 else false
      exact (if_neg (by decide)).symm
    have n1 : noneg (⟨3, 0, 0, 0, 0⟩ :: O) := fun m O' h => by
      injection h with h _
      rw [← h]
      show (3 : Int) ≠ 1
      decide
    have g1 : strO (⟨3, 0, 0, 0, 0⟩ :: O) = 0 := by
      show (if (3 : Int) = 2 then s169 0 else 0) = 0
      exact if_neg (by decide)
    have r1 := oneE e
    rcases bindD_some d with ⟨e, p, d1, rfl⟩ | ⟨v, j, ns1, d1, d2⟩
    · exact r1.errs (A.expr _ _ _ _ V (⟨3, 0, 0, 0, 0⟩ :: O) _ ha hr1 n1 g1 d1)
    · obtain ⟨k2, a2, o2, r2⟩ := A.expr _ _ _ _ V (⟨3, 0, 0, 0, 0⟩ :: O) _ ha hr1 n1 g1 d1
      have r3 := r1.toS.thenE r2
      rw [closeM_other (m := ⟨3, 0, 0, 0, 0⟩) (O := O) rfl (show (3 : Int) ≠ 4 by decide)] at r3
      unfold endM at r3
      by_cases c41 : (tok s j).kind = 41
      · rw [if_pos c41] at d2 r3
        injection d2 with d2
        subst d2
        rw [if_pos (show (3 : Int) = 3 from rfl), take_mk a2 (by rw [c41]; decide)] at r3
        exact ⟨k2 + 1, true, a2.take (by rw [c41]; decide), r3.toS⟩
      · rw [if_neg c41] at d2 r3
        injection d2 with d2
        subst d2
        rw [tok_at0 a2.le] at r3
        exact r3.errs (errs_now (by decide) rfl rfl)
  · rw [if_neg c40] at d e
    injection d with d
    subst d
    rw [if_neg c3, tok_at0 h.le] at e
    by_cases c6 : (tok s i).kind = 6
    · rw [if_pos c6, if_neg (fun hh => hn ⟨c6, hh⟩)] at e
      exact failB (by decide) e
    · rw [if_neg c6] at e
      exact failB (by decide) e
theorem sim_args (A : SimAll (s := s) m) (f p n l : Int) (k i : Nat) (ns : List NodeT) (V : List Int) (O : List MarkT) (x : DRes) (h : At s k i) (d : D s (m + 1) (.args f p n l) i ns = some x) : SimA (s := s) (mk k i ns V (⟨4, f, p, n, l⟩ :: O) false) V O x := by
  have d : bindD (D s m (.expr (s209 f)) i ns) (fun a j ns => bindD (some (addD ns j (argN a l))) fun l' j ns =>
      if (tok s j).kind = 44 then D s m (.args f p (n + 1) l') (tok s j).end_.toNat ns
      else if (tok s j).kind = 41 then
        if s208 f (n + 1) = true then some (addD ns (tok s j).end_.toNat (callN f l' (n + 1))) else some (.error (6, p))
      else some (.error (3, (skip s j : Nat)))) = some x := d
  have hr1 : s209 f = rangesO (⟨4, f, p, n, l⟩ :: O) := by
    show _ = if (4 : Int) = 4 then s209 f else false
    exact (if_pos rfl).symm
  have n1 : noneg (⟨4, f, p, n, l⟩ :: O) := fun m O' h => by
    injection h with h _
    rw [← h]
    show (4 : Int) ≠ 1
    decide
  have g1 : strO (⟨4, f, p, n, l⟩ :: O) = 0 := by
    show (if (4 : Int) = 2 then s169 f else 0) = 0
    exact if_neg (by decide)
  rcases bindD_some d with ⟨e, p, d1, rfl⟩ | ⟨a, j, ns1, d1, d2⟩
  · exact A.expr _ _ _ _ V (⟨4, f, _, n, l⟩ :: O) _ h hr1 n1 g1 d1
  · obtain ⟨k2, a2, o2, r2⟩ := A.expr _ _ _ _ V (⟨4, f, p, n, l⟩ :: O) _ h hr1 n1 g1 d1
    rw [closeM_call (m := ⟨4, f, p, n, l⟩) (O := O) (a := a) (V := V) rfl rfl rfl] at r2
    have e0 : ({ mk k2 j ns1 (a :: V) (⟨4, f, p, n, l⟩ :: O) true with V := V } : Mc) = mk k2 j ns1 V (⟨4, f, p, n, l⟩ :: O) true := rfl
    rw [e0] at r2
    rcases add_mk (k := k2) (i := j) (ns := ns1) (V := V) (O := ⟨4, f, p, n, l⟩ :: O) (hv := true) (argN a l) with ⟨h1, h2⟩ | ⟨h1, h2⟩
    · rw [h1] at d2
      rw [h2] at r2
      generalize (ns1.length : Int) = l' at d2 r2
      generalize hns : ns1 ++ [argN a l] = ns2 at d2 r2
      have d2 : (if (tok s j).kind = 44 then D s m (.args f p (n + 1) l') (tok s j).end_.toNat ns2
        else if (tok s j).kind = 41 then
          if s208 f (n + 1) = true then some (addD ns2 (tok s j).end_.toNat (callN f l' (n + 1))) else some (.error (6, p))
        else some (.error (3, (skip s j : Nat)))) = some x := d2
      have r2 : RunsE (s := s) (mk k i ns V (⟨4, f, p, n, l⟩ :: O) false) (if (tok s j).kind = 44 then { takeM (TT s) (mk k2 j ns2 V (⟨4, f, p, n + 1, l'⟩ :: O) true) with hv := false } else endM (TT s) (tok s j) (mk k2 j ns2 V (⟨4, f, p, n + 1, l'⟩ :: O) true) ⟨4, f, p, n + 1, l'⟩ O) := r2
      by_cases c44 : (tok s j).kind = 44
      · rw [if_pos c44] at d2 r2
        rw [take_mk a2 (by rw [c44]; decide)] at r2
        have r2 : RunsE (s := s) (mk k i ns V (⟨4, f, p, n, l⟩ :: O) false) (mk (k2 + 1) (tok s j).end_.toNat ns2 V (⟨4, f, p, n + 1, l'⟩ :: O) false) := r2
        exact SimA.pre r2.toS (A.args _ _ _ _ _ _ _ V O x (a2.take (by rw [c44]; decide)) d2)
      rw [if_neg c44] at d2 r2
      unfold endM at r2
      by_cases c41 : (tok s j).kind = 41
      · rw [if_pos c41] at d2 r2
        rw [if_neg (show ¬ (4 : Int) = 3 by decide), take_mk a2 (by rw [c41]; decide)] at r2
        by_cases c8 : s208 f (n + 1) = true
        · rw [if_pos c8] at d2 r2
          injection d2 with d2
          subst d2
          have r2 : RunsE (s := s) (mk k i ns V (⟨4, f, p, n, l⟩ :: O) false) (wholeM (mk (k2 + 1) (tok s j).end_.toNat ns2 V O true) (callN f l' (n + 1))) := r2
          exact whole_sim r2 (a2.take (by rw [c41]; decide))
        · rw [if_neg c8] at d2 r2
          injection d2 with d2
          subst d2
          exact r2.errs (errs_now (by decide) rfl rfl)
      · rw [if_neg c41] at d2 r2
        injection d2 with d2
        subst d2
        rw [tok_at0 a2.le] at r2
        exact r2.errs (errs_now (by decide) rfl rfl)
    · rw [h1] at d2
      have d2 : some (Except.error (7, (j : Int))) = some x := d2
      injection d2 with d2
      subst d2
      rw [h2] at r2
      by_cases c44 : (tok s j).kind = 44
      · rw [if_pos c44] at r2
        exact r2.errs (errs_now (by decide) rfl rfl)
      · rw [if_neg c44] at r2
        have st := endM_stuck (T := TT s) (t := tok s j) (m := ⟨4, f, p, n + 1, -1⟩) (O := O) (M := { mk k2 j ns1 V (⟨4, f, p, n + 1, -1⟩ :: O) true with err := 7, bad := (j : Int) }) (show (7 : Int) ≠ 0 by decide)
        exact r2.errs (errs_now (by decide) st.1 st.2)
theorem sim : ∀ m, SimAll (s := s) m := by
  intro m
  induction m with
  | zero =>
    constructor <;> intros <;> exact absurd ‹D s 0 _ _ _ = some _› (by simp [D])
  | succ m A => exact ⟨sim_expr A, sim_chain2 A, sim_loop2 A, sim_chain3 A, sim_loop3 A, sim_unary A, sim_atom A, sim_args A⟩
/-- What the descent makes of the whole text. -/
def DT (s : List UInt8) : TreeV :=
  match D s (10 * rem s 0 + 5) (.expr false) 0 [] with
  | some (.ok (v, i, ns)) => if (tok s i).kind = 0 then ⟨ns, (ns.length : Int) - 1, 0, 0⟩ else ⟨[], -1, 3, (skip s i : Nat)⟩
  | some (.error (e, p)) => ⟨[], -1, e, p⟩
  | none => ⟨[], -1, 0, 0⟩
theorem runM_done {M : Mc} {T : Nat → TokT} (h : M.done = true) : ∀ g, runM T g M = M := by
  intro g
  cases g with
  | zero => rfl
  | succ g => show (if _ then _ else _) = _; rw [if_neg (fun hh => by rw [h] at hh; exact absurd hh.2 (by decide))]
theorem at0 : At s 0 0 := by
  refine ⟨Nat.zero_le _, ?_⟩
  rw [toksFrom_eq]
  split
  · unfold tok; rw [if_pos ‹_›]; rfl
  · unfold tok; rw [if_neg ‹_›]; rfl
/-- The machine's run over the whole text answers as the descent does; it is over by j steps. -/
theorem sim_all : ∃ j, ∀ g, outM (runM (TT s) (j + g) (mk 0 0 [] [] [] false)) = DT s ∧ ((runM (TT s) (j + g) (mk 0 0 [] [] [] false)).err ≠ 0 ∨ (runM (TT s) (j + g) (mk 0 0 [] [] [] false)).done = true) := by
  obtain ⟨x, hx, hx2⟩ := D_ends s (10 * rem s 0 + 5) (.expr false) 0 [] (Nat.zero_le _) (by show _ + 5 ≤ _; exact Nat.le_refl _)
  have hs := sim (s := s) (10 * rem s 0 + 5)
  have := hs.expr false 0 0 [] [] [] x at0 rfl (fun m O' h => by cases h) rfl hx
  have he : ∀ e p, Errs (s := s) (mk 0 0 [] [] [] false) e p → DT s = ⟨[], -1, e, p⟩ → ∃ j, ∀ g, outM (runM (TT s) (j + g) (mk 0 0 [] [] [] false)) = DT s ∧ ((runM (TT s) (j + g) (mk 0 0 [] [] [] false)).err ≠ 0 ∨ (runM (TT s) (j + g) (mk 0 0 [] [] [] false)).done = true) := by
    intro e p h hd
    obtain ⟨h0, j, hj⟩ := h
    refine ⟨j, fun g => ?_⟩
    obtain ⟨h1, h2⟩ := hj g
    refine ⟨?_, .inl (by rw [h1]; exact h0)⟩
    unfold outM
    rw [if_neg (by rw [h1]; exact h0), h1, h2, hd]
  match x with
  | .error (e, p) => exact he e p this (by unfold DT; rw [hx])
  | .ok (v, i, ns) =>
    obtain ⟨k, a, o, r⟩ := this
    rw [closeM_nil rfl] at r
    by_cases h0 : (tok s i).kind = 0
    · rw [if_pos h0] at r
      obtain ⟨j, hj⟩ := r
      refine ⟨j + 1, fun g => ?_⟩
      have hd : DT s = ⟨ns, (ns.length : Int) - 1, 0, 0⟩ := by unfold DT; rw [hx]; simp only; rw [if_pos h0]
      have e1 := hj g
      rw [runM_done (M := { mk k i ns [v] [] true with done := true }) rfl] at e1
      rw [show j + 1 + g = j + (g + 1) by omega, e1]
      refine ⟨?_, .inr rfl⟩
      rw [hd]
      exact if_pos rfl
    · rw [if_neg h0] at r
      refine he 3 _ (r.errs (errs_now (by decide) rfl ?_)) (by unfold DT; rw [hx]; simp only; rw [if_neg h0])
      show (tok s i).at_ = _
      exact tok_at0 a.le
end
end Go.Proofs.Qxb6500272aGreat
