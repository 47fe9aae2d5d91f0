/-
  Plain laws, the parser: the machine with two stacks comes to what the descent answers.
-/
import Derived.Test.Qxb6500272aGreatL3
namespace Go.Proofs.Qxb6500272aGreat
open Go
set_option linter.unusedVariables false
set_option linter.unusedSimpArgs false

/-! ### A fault stays -/
def Stuck (M N : Mc) : Prop := N.err = M.err ∧ N.bad = M.bad
theorem addM_stuck {M : Mc} (h : M.err ≠ 0) (x : NodeT) : addM M x = (M, -1) := by unfold addM; rw [if_neg h]
theorem failM_stuck {M : Mc} (h : M.err ≠ 0) (e p : Int) : failM M e p = M := by unfold failM; rw [if_neg h]
theorem joinM_stuck {M : Mc} (h : M.err ≠ 0) : Stuck M (joinM M) := by
  unfold joinM
  split
  · rename_i m O b a V _ _
    dsimp only
    rw [addM_stuck (M := { M with O := O, V := a :: V }) h]; exact ⟨rfl, rfl⟩
  · exact ⟨rfl, rfl⟩
theorem finM_stuck {M : Mc} (h : M.err ≠ 0) : Stuck M (finM M) := by
  unfold finM
  split
  · exact joinM_stuck h
  · exact ⟨rfl, rfl⟩
theorem settleN_stuck : ∀ (n : Nat) (M : Mc), M.err ≠ 0 → Stuck M (settleN n M) := by
  intro n
  induction n with
  | zero => intro M h; exact ⟨rfl, rfl⟩
  | succ n ih =>
    intro M h
    unfold settleN
    split
    · split
      · rename_i m O a V _ _ _
        dsimp only
        rw [addM_stuck (M := { M with O := O }) h]
        exact ih { M with O := O, V := _ } h
      · exact finM_stuck h
    · exact finM_stuck h
theorem settleM_stuck {M : Mc} (h : M.err ≠ 0) : Stuck M (settleM M) := settleN_stuck _ _ h
theorem wholeM_stuck {M : Mc} (h : M.err ≠ 0) (x : NodeT) : Stuck M (wholeM M x) := by
  unfold wholeM
  rw [addM_stuck h]
  exact settleM_stuck (M := { M with V := _ }) h
theorem endM_stuck {M : Mc} {T : Nat → TokT} {t : TokT} {m : MarkT} {O : List MarkT} (h : M.err ≠ 0) : Stuck M (endM T t M m O) := by
  unfold endM
  split
  · split
    · exact settleM_stuck (M := { takeM T M with O := O }) h
    · split
      · exact wholeM_stuck (M := { takeM T M with O := O }) h _
      · rw [failM_stuck (M := { takeM T M with O := O }) h]; exact ⟨rfl, rfl⟩
  · rw [failM_stuck h]; exact ⟨rfl, rfl⟩
theorem closeM_stuck {M : Mc} {T : Nat → TokT} {t : TokT} (h : M.err ≠ 0) : Stuck M (closeM T t M) := by
  cases hO : M.O with
  | nil =>
    rw [closeM_nil hO]
    split
    · exact ⟨rfl, rfl⟩
    · rw [failM_stuck h]; exact ⟨rfl, rfl⟩
  | cons m O =>
    by_cases h4 : m.kind = 4
    · cases hV : M.V with
      | nil =>
        have : closeM T t M = M := by
          obtain ⟨k, pos, ar, V0, O0, hv, done, err, bad⟩ := M
          simp only at hO hV
          subst hO hV
          unfold closeM
          simp only [if_pos h4]
        rw [this]; exact ⟨rfl, rfl⟩
      | cons a V =>
        rw [closeM_call hO hV h4, addM_stuck (M := { M with V := V }) h]
        split
        · exact ⟨rfl, rfl⟩
        · exact endM_stuck (M := { M with V := V, O := _ }) h
    · rw [closeM_other hO h4]; exact endM_stuck h
theorem opM_stuck {M : Mc} {T : Nat → TokT} {t : TokT} (h : M.err ≠ 0) : Stuck M (opM T t M) := by
  unfold opM
  split
  · exact ⟨rfl, rfl⟩
  · split
    · rw [failM_stuck h]; exact ⟨rfl, rfl⟩
    · exact ⟨rfl, rfl⟩
theorem Stuck.trans {A B C : Mc} (h : Stuck A B) (k : Stuck B C) : Stuck A C := ⟨k.1.trans h.1, k.2.trans h.2⟩
theorem after3_stuck {M : Mc} {T : Nat → TokT} {t : TokT} {s : Int} (h : M.err ≠ 0) : Stuck M (after3 T t s M) := by
  unfold after3
  split
  · exact closeM_stuck h
  · exact opM_stuck h
theorem after2_stuck {M : Mc} {T : Nat → TokT} {t : TokT} {s : Int} (h : M.err ≠ 0) : Stuck M (after2 T t s M) := by
  unfold after2
  split
  · have := joinM_stuck h
    exact this.trans (after3_stuck (by rw [this.1]; exact h))
  · exact after3_stuck h
theorem after1_stuck {M : Mc} {T : Nat → TokT} {t : TokT} {s : Int} (h : M.err ≠ 0) : Stuck M (after1 T t s M) := by
  unfold after1
  split
  · have := joinM_stuck h
    exact this.trans (after2_stuck (by rw [this.1]; exact h))
  · exact after2_stuck h
theorem runM_stuck {M : Mc} {T : Nat → TokT} (h : M.err ≠ 0) : ∀ g, runM T g M = M := by
  intro g
  cases g with
  | zero => rfl
  | succ g => show (if _ then _ else _) = _; rw [if_neg (fun hh => h hh.1)]

/-! ### States of the machine that runs -/
def mk (k : Nat) (i : Nat) (ns : List NodeT) (V : List Int) (O : List MarkT) (hv : Bool) : Mc := ⟨k, (i : Int), ns, V, O, hv, false, 0, 0⟩
section
variable (s : List UInt8)
def TT (k : Nat) : TokT := (toksFrom s 0).getD k dTok
/-- The token at hand, the k-th, is the one at place i. -/
structure At (k i : Nat) : Prop where
  le : i ≤ s.length
  get : (toksFrom s 0)[k]? = some (tok s i)
variable {s}
theorem At.tt {k i : Nat} (h : At s k i) : TT s k = tok s i := by
  unfold TT
  rw [List.getD_eq_getElem?_getD, h.get]; rfl
theorem At.skip {k i : Nat} (h : At s k i) : At s k (skip s i) := ⟨skip_len s i h.le, by rw [tok_skip]; exact h.get⟩
theorem At.take {k i : Nat} (h : At s k i) (h0 : (tok s i).kind ≠ 0) : At s (k + 1) (tok s i).end_.toNat := by
  obtain ⟨e, he, het, h1, h2, h3⟩ := tok_end h.le h0
  rcases (toksFrom_get s 0 (Nat.zero_le _)).2 k _ h.get with ⟨h4, _⟩ | ⟨_, e', h5, h6, h7, h8⟩
  · exact absurd h4 h0
  · have : e' = e := by omega
    subst this
    rw [het]
    exact ⟨h2, h8⟩
def Pt (t : TokT) : Prop := (t.kind = 6 → 1 ≤ t.n ∧ t.n ≤ 10) ∧ (t.kind = 3 → t.n ≠ 0)
theorem Pt.ite {c : Prop} [Decidable c] {a b : TokT} (h1 : c → Pt a) (h2 : ¬ c → Pt b) : Pt (if c then a else b) := by
  by_cases h : c
  · rw [if_pos h]; exact h1 h
  · rw [if_neg h]; exact h2 h
theorem sgn_pt (j : Nat) (c d : Int) : Pt (sgn j c d) := by
  unfold sgn
  repeat' refine Pt.ite (fun h => ?_) (fun _ => ?_)
  all_goals first
    | (refine ⟨?_, ?_⟩ <;> intro h9 <;> (have h9 : c = _ := h9) <;> omega)
    | exact ⟨by simp, by simp⟩
theorem tok_pt (s : List UInt8) (i : Nat) : Pt (tok s i) := by
  unfold tok
  refine Pt.ite (fun hc => ?_) (fun _ => ⟨by simp, by simp⟩)
  unfold rawTok
  refine Pt.ite (fun hc => ?_) (fun _ => Pt.ite (fun hc => ?_) (fun _ => sgn_pt _ _ _))
  · unfold numTok
    refine Pt.ite (fun hc => ⟨by simp, by simp⟩) (fun _ => ⟨by simp, by simp⟩)
  · unfold wordTok
    simp only
    cases hr : refOf (wordAt s (Qxb6500272aGreat.skip s i) (wEnd s (Qxb6500272aGreat.skip s i))) with
    | some r => exact ⟨by simp, by simp⟩
    | none =>
      simp only
      repeat' refine Pt.ite (fun h => ?_) (fun _ => ?_)
      all_goals exact ⟨by simp, by simp⟩
/-- From M the machine comes to a state that goes on as M' does. -/
def RunsS (M M' : Mc) : Prop := ∃ j, ∀ g, runM (TT s) (j + (g + 1)) M = runM (TT s) (g + 1) M'
/-- From M the machine comes to N by steps. -/
def RunsE (M N : Mc) : Prop := ∃ j, ∀ g, runM (TT s) (j + (g + 1)) M = runM (TT s) g N
def Errs (M : Mc) (e p : Int) : Prop := e ≠ 0 ∧ ∃ j, ∀ g, (runM (TT s) (j + g) M).err = e ∧ (runM (TT s) (j + g) M).bad = p
theorem RunsS.refl (M : Mc) : RunsS (s := s) M M := ⟨0, fun g => by rw [Nat.zero_add]⟩
theorem RunsS.trans {A B C : Mc} (h : RunsS (s := s) A B) (k : RunsS (s := s) B C) : RunsS (s := s) A C := by
  obtain ⟨j, h⟩ := h
  obtain ⟨j', k⟩ := k
  refine ⟨j + j', fun g => ?_⟩
  rw [← k g, ← Nat.add_assoc j' g 1, ← h (j' + g)]
  congr 1
  omega
theorem RunsS.thenE {A B C : Mc} (h : RunsS (s := s) A B) (k : RunsE (s := s) B C) : RunsE (s := s) A C := by
  obtain ⟨j, h⟩ := h
  obtain ⟨j', k⟩ := k
  refine ⟨j + j', fun g => ?_⟩
  rw [← k g, ← Nat.add_assoc j' g 1, ← h (j' + g)]
  congr 1
  omega
theorem RunsE.thenS {A B C : Mc} (h : RunsE (s := s) A B) (k : RunsS (s := s) B C) : RunsS (s := s) A C := by
  obtain ⟨j, h⟩ := h
  obtain ⟨j', k⟩ := k
  refine ⟨j + j' + 1, fun g => ?_⟩
  rw [← k g, ← h (j' + (g + 1))]
  congr 1
  omega
theorem RunsE.toS {A B : Mc} (h : RunsE (s := s) A B) : RunsS (s := s) A B := h.thenS (RunsS.refl _)
theorem RunsS.errs {A B : Mc} {e p : Int} (h : RunsS (s := s) A B) (k : Errs (s := s) B e p) : Errs (s := s) A e p := by
  obtain ⟨j, h⟩ := h
  obtain ⟨he, j', k⟩ := k
  refine ⟨he, j + j' + 1, fun g => ?_⟩
  have e1 : j + j' + 1 + g = j + ((j' + g) + 1) := by omega
  rw [e1, h]
  have := k (g + 1)
  rw [show j' + (g + 1) = j' + g + 1 by omega] at this
  exact this
theorem RunsE.errs {A B : Mc} {e p : Int} (h : RunsE (s := s) A B) (k : Errs (s := s) B e p) : Errs (s := s) A e p := h.toS.errs k
theorem errs_now {M : Mc} {e p : Int} (he : e ≠ 0) (h1 : M.err = e) (h2 : M.bad = p) : Errs (s := s) M e p :=
  ⟨he, 0, fun g => by rw [runM_stuck (by rw [h1]; exact he)]; exact ⟨h1, h2⟩⟩
theorem run_mk (k i : Nat) (ns : List NodeT) (V : List Int) (O : List MarkT) (hv : Bool) (g : Nat) : runM (TT s) (g + 1) (mk k i ns V O hv) = runM (TT s) g (stepM (TT s) (mk k i ns V O hv)) := by
  show (if _ then _ else _) = _
  rw [if_pos ⟨rfl, rfl⟩]
theorem oneE {k i : Nat} {ns : List NodeT} {V : List Int} {O : List MarkT} {hv : Bool} {N : Mc} (h : stepM (TT s) (mk k i ns V O hv) = N) : RunsE (s := s) (mk k i ns V O hv) N :=
  ⟨0, fun g => by rw [Nat.zero_add, run_mk, h]⟩
theorem same_step {k i k' i' : Nat} {ns ns' : List NodeT} {V V' : List Int} {O O' : List MarkT} {hv hv' : Bool} (h : stepM (TT s) (mk k i ns V O hv) = stepM (TT s) (mk k' i' ns' V' O' hv')) : RunsS (s := s) (mk k i ns V O hv) (mk k' i' ns' V' O' hv') :=
  ⟨0, fun g => by rw [Nat.zero_add, run_mk, run_mk, h]⟩
theorem errs_step {k i : Nat} {ns : List NodeT} {V : List Int} {O : List MarkT} {hv : Bool} {e p : Int} (he : e ≠ 0) (h1 : (stepM (TT s) (mk k i ns V O hv)).err = e) (h2 : (stepM (TT s) (mk k i ns V O hv)).bad = p) : Errs (s := s) (mk k i ns V O hv) e p :=
  (oneE rfl).errs (errs_now he h1 h2)
theorem look_mk {k i : Nat} (h : At s k i) (ns : List NodeT) (V : List Int) (O : List MarkT) (hv : Bool) : lookM (TT s) (mk k i ns V O hv) = if (tok s i).kind = 1 then { mk k (Qxb6500272aGreat.skip s i) ns V O hv with err := 2, bad := (Qxb6500272aGreat.skip s i : Nat) } else mk k (Qxb6500272aGreat.skip s i) ns V O hv := by
  unfold lookM
  rw [show (mk k i ns V O hv).k = k from rfl, h.tt, tok_at h.le]
  split
  · unfold failM
    refine (if_pos ?_).trans rfl
    rfl
  · rfl
theorem take_mk {k i : Nat} (h : At s k i) (h0 : (tok s i).kind ≠ 0) (i0 : Nat) (ns : List NodeT) (V : List Int) (O : List MarkT) (hv : Bool) : takeM (TT s) (mk k i0 ns V O hv) = mk (k + 1) (tok s i).end_.toNat ns V O hv := by
  obtain ⟨e, he, het, h1, h2, h3⟩ := tok_end h.le h0
  unfold takeM
  rw [show (mk k i0 ns V O hv).k = k from rfl, h.tt, het, he]
  rfl
theorem add_mk {k i : Nat} {ns : List NodeT} {V : List Int} {O : List MarkT} {hv : Bool} (x : NodeT) : (addD ns i x = .ok ((ns.length : Int), i, ns ++ [x]) ∧ addM (mk k i ns V O hv) x = (mk k i (ns ++ [x]) V O hv, (ns.length : Int))) ∨
    (addD ns i x = .error (7, (i : Int)) ∧ addM (mk k i ns V O hv) x = ({ mk k i ns V O hv with err := 7, bad := (i : Int) }, -1)) := by
  unfold addD
  rcases addM_cases (mk k i ns V O hv) x with ⟨h1, e⟩ | ⟨h1, h2, e⟩ | ⟨h1, h2, e⟩
  · exact absurd rfl h1
  · right
    rw [if_pos (show 24 ≤ ns.length from h2), e]
    exact ⟨rfl, rfl⟩
  · left
    rw [if_neg (show ¬ 24 ≤ ns.length from Nat.not_le.2 h2), e]
    exact ⟨rfl, rfl⟩

theorem whole_mk {k i : Nat} {ns : List NodeT} {V : List Int} {O : List MarkT} {hv : Bool} (x : NodeT) : (addD ns i x = .ok ((ns.length : Int), i, ns ++ [x]) ∧ wholeM (mk k i ns V O hv) x = settleM (mk k i (ns ++ [x]) ((ns.length : Int) :: V) O hv)) ∨
    (addD ns i x = .error (7, (i : Int)) ∧ (wholeM (mk k i ns V O hv) x).err = 7 ∧ (wholeM (mk k i ns V O hv) x).bad = (i : Int)) := by
  rcases add_mk (k := k) (i := i) (ns := ns) (V := V) (O := O) (hv := hv) x with ⟨h1, h2⟩ | ⟨h1, h2⟩
  · left
    refine ⟨h1, ?_⟩
    unfold wholeM
    rw [h2]; rfl
  · right
    refine ⟨h1, ?_⟩
    unfold wholeM
    rw [h2]
    exact settleM_stuck (M := { mk k i ns (-1 :: V) O hv with err := 7, bad := (i : Int) }) (show (7 : Int) ≠ 0 by decide)
theorem look_ok' {k i : Nat} (h : At s k i) (h1 : (tok s i).kind ≠ 1) (ns : List NodeT) (V : List Int) (O : List MarkT) (hv : Bool) : lookM (TT s) (mk k i ns V O hv) = mk k (Qxb6500272aGreat.skip s i) ns V O hv := by
  rw [look_mk h, if_neg h1]
theorem look_bad {k i : Nat} (h : At s k i) (h1 : (tok s i).kind = 1) (ns : List NodeT) (V : List Int) (O : List MarkT) (hv : Bool) : lookM (TT s) (mk k i ns V O hv) = { mk k (Qxb6500272aGreat.skip s i) ns V O hv with err := 2, bad := (Qxb6500272aGreat.skip s i : Nat) } := by
  rw [look_mk h, if_pos h1]
theorem step_af {k i : Nat} (h : At s k i) (h1 : (tok s i).kind ≠ 1) (ns : List NodeT) (V : List Int) (O : List MarkT) : stepM (TT s) (mk k i ns V O true) = after1 (TT s) (tok s i) (strT (tok s i)) (mk k (Qxb6500272aGreat.skip s i) ns V O true) := by
  show afterM (TT s) (mk k i ns V O true) = _
  unfold afterM
  rw [show (mk k i ns V O true).k = k from rfl, h.tt, look_ok' h h1]
theorem bad_af {k i : Nat} (h : At s k i) (h1 : (tok s i).kind = 1) (ns : List NodeT) (V : List Int) (O : List MarkT) : Errs (s := s) (mk k i ns V O true) 2 (Qxb6500272aGreat.skip s i : Nat) := by
  have e : stepM (TT s) (mk k i ns V O true) = afterM (TT s) (mk k i ns V O true) := rfl
  have := after1_stuck (T := TT s) (t := tok s i) (s := strT (tok s i)) (M := { mk k (Qxb6500272aGreat.skip s i) ns V O true with err := 2, bad := (Qxb6500272aGreat.skip s i : Nat) }) (show (2 : Int) ≠ 0 by decide)
  refine errs_step (by decide) ?_ ?_
  · rw [e]; unfold afterM
    rw [show (mk k i ns V O true).k = k from rfl, h.tt, look_bad h h1]
    exact this.1
  · rw [e]; unfold afterM
    rw [show (mk k i ns V O true).k = k from rfl, h.tt, look_bad h h1]
    exact this.2
/-- An atom's step, at the token t with the machine M. -/
def atomB (T : Nat → TokT) (t : TokT) (M1 : Mc) : Mc :=
  if t.kind = 2 then wholeM (takeM T M1) (leafN t.op t.n)
  else if t.kind = 4 then refM T t M1
  else if t.kind = 5 then callM T t M1
  else if t.kind = 40 then pushM (takeM T M1) ⟨3, 0, 0, 0, 0⟩
  else if t.kind = 3 then failM M1 t.n t.at_
  else if t.kind = 6 then if t.n = 8 then pushM (takeM T M1) ⟨1, 0, 0, 0, 0⟩ else failM M1 3 t.at_
  else failM M1 3 t.at_
theorem step_at {k i : Nat} (h : At s k i) (h1 : (tok s i).kind ≠ 1) (ns : List NodeT) (V : List Int) (O : List MarkT) : stepM (TT s) (mk k i ns V O false) = atomB (TT s) (tok s i) (mk k (Qxb6500272aGreat.skip s i) ns V O false) := by
  show atomM (TT s) (mk k i ns V O false) = _
  unfold atomM atomB
  rw [show (mk k i ns V O false).k = k from rfl, h.tt, look_ok' h h1]
theorem bad_at {k i : Nat} (h : At s k i) (h1 : (tok s i).kind = 1) (ns : List NodeT) (V : List Int) (O : List MarkT) : Errs (s := s) (mk k i ns V O false) 2 (Qxb6500272aGreat.skip s i : Nat) := by
  have e : stepM (TT s) (mk k i ns V O false) = { mk k (Qxb6500272aGreat.skip s i) ns V O false with err := 2, bad := (Qxb6500272aGreat.skip s i : Nat) } := by
    show atomM (TT s) (mk k i ns V O false) = _
    unfold atomM
    rw [show (mk k i ns V O false).k = k from rfl, h.tt, look_bad h h1]
    simp only [h1]
    rfl
  refine errs_step (by decide) ?_ ?_
  · rw [e]
  · rw [e]
/-- What the machine makes of what the descent answers. -/
def SimA (M : Mc) (V : List Int) (O : List MarkT) (x : DRes) : Prop :=
  match x with
  | .error (e, p) => Errs (s := s) M e p
  | .ok (v, i, ns) => ∃ k hv, At s k i ∧ RunsS (s := s) M (settleM (mk k i ns (v :: V) O hv))
def SimL (Out : Nat → Prop) (M : Mc) (V : List Int) (O : List MarkT) (x : DRes) : Prop :=
  match x with
  | .error (e, p) => Errs (s := s) M e p
  | .ok (v, i, ns) => ∃ k, At s k i ∧ Out i ∧ RunsS (s := s) M (mk k i ns (v :: V) O true)
def Out1 (i : Nat) : Prop := Qxb6500272aGreat.skip s i = i ∧ (tok s i).kind ≠ 1
def Out2 (i : Nat) : Prop := Out1 (s := s) i ∧ strT (tok s i) < 2
def Out3 (i : Nat) : Prop := Out1 (s := s) i ∧ strT (tok s i) < 3
def SimE (M : Mc) (V : List Int) (O : List MarkT) (x : DRes) : Prop :=
  match x with
  | .error (e, p) => Errs (s := s) M e p
  | .ok (v, i, ns) => ∃ k, At s k i ∧ Out1 (s := s) i ∧ RunsE (s := s) M (closeM (TT s) (tok s i) (mk k i ns (v :: V) O true))
def noneg (O : List MarkT) : Prop := ∀ m O', O = m :: O' → m.kind ≠ 1
structure SimAll (m : Nat) : Prop where
  expr : ∀ (r : Bool) (k i : Nat) (ns : List NodeT) (V : List Int) (O : List MarkT) (x : DRes), At s k i → r = rangesO O → noneg O → strO O = 0 → D s m (.expr r) i ns = some x → SimE (s := s) (mk k i ns V O false) V O x
  chain2 : ∀ (r : Bool) (k i : Nat) (ns : List NodeT) (V : List Int) (O : List MarkT) (x : DRes), At s k i → r = rangesO O → noneg O → strO O < 2 → D s m (.chain2 r) i ns = some x → SimL (s := s) (Out2 (s := s)) (mk k i ns V O false) V O x
  loop2 : ∀ (a : Int) (k i : Nat) (ns : List NodeT) (V : List Int) (O : List MarkT) (x : DRes), At s k i → noneg O → strO O < 2 → strT (tok s i) < 3 → D s m (.loop2 a) i ns = some x → SimL (s := s) (Out2 (s := s)) (mk k i ns (a :: V) O true) V O x
  chain3 : ∀ (r : Bool) (k i : Nat) (ns : List NodeT) (V : List Int) (O : List MarkT) (x : DRes), At s k i → r = rangesO O → noneg O → strO O < 3 → D s m (.chain3 r) i ns = some x → SimL (s := s) (Out3 (s := s)) (mk k i ns V O false) V O x
  loop3 : ∀ (a : Int) (k i : Nat) (ns : List NodeT) (V : List Int) (O : List MarkT) (x : DRes), At s k i → noneg O → strO O < 3 → D s m (.loop3 a) i ns = some x → SimL (s := s) (Out3 (s := s)) (mk k i ns (a :: V) O true) V O x
  unary : ∀ (r : Bool) (k i : Nat) (ns : List NodeT) (V : List Int) (O : List MarkT) (x : DRes), At s k i → r = rangesO O → D s m (.unary r) i ns = some x → SimA (s := s) (mk k i ns V O false) V O x
  atom : ∀ (r : Bool) (k i : Nat) (ns : List NodeT) (V : List Int) (O : List MarkT) (x : DRes), At s k i → r = rangesO O → ¬ ((tok s i).kind = 6 ∧ (tok s i).n = 8) → D s m (.atom r) i ns = some x → SimA (s := s) (mk k i ns V O false) V O x
  args : ∀ (f p n l : Int) (k i : Nat) (ns : List NodeT) (V : List Int) (O : List MarkT) (x : DRes), At s k i → D s m (.args f p n l) i ns = some x → SimA (s := s) (mk k i ns V (⟨4, f, p, n, l⟩ :: O) false) V O x
theorem bindD_some {o : Option DRes} {k : Int → Nat → List NodeT → Option DRes} {x : DRes} (h : bindD o k = some x) : (∃ e p, o = some (.error (e, p)) ∧ x = .error (e, p)) ∨ (∃ v i ns, o = some (.ok (v, i, ns)) ∧ k v i ns = some x) := by
  match o with
  | none => exact absurd h (by simp [bindD])
  | some (.error (e, p)) => exact .inl ⟨e, p, rfl, by simpa [bindD] using h.symm⟩
  | some (.ok (v, i, ns)) => exact .inr ⟨v, i, ns, rfl, h⟩
theorem SimA.pre {A B : Mc} {V : List Int} {O : List MarkT} {x : DRes} (h : RunsS (s := s) A B) (k : SimA (s := s) B V O x) : SimA (s := s) A V O x := by
  match x with
  | .error (e, p) => exact h.errs k
  | .ok (v, i, ns) => obtain ⟨k', hv, a, r⟩ := k; exact ⟨k', hv, a, h.trans r⟩
theorem SimL.pre {Out : Nat → Prop} {A B : Mc} {V : List Int} {O : List MarkT} {x : DRes} (h : RunsS (s := s) A B) (k : SimL (s := s) Out B V O x) : SimL (s := s) Out A V O x := by
  match x with
  | .error (e, p) => exact h.errs k
  | .ok (v, i, ns) => obtain ⟨k', a, o, r⟩ := k; exact ⟨k', a, o, h.trans r⟩
/-- One step into a whole operand. -/
theorem whole_sim {M : Mc} {k i : Nat} {ns : List NodeT} {V : List Int} {O : List MarkT} {hv : Bool} {x : NodeT} (h : RunsE (s := s) M (wholeM (mk k i ns V O hv) x)) (a : At s k i) : SimA (s := s) M V O (addD ns i x) := by
  rcases whole_mk (k := k) (i := i) (ns := ns) (V := V) (O := O) (hv := hv) x with ⟨h1, h2⟩ | ⟨h1, h2, h3⟩
  · rw [h1]
    rw [h2] at h
    exact ⟨k, hv, a, h.toS⟩
  · rw [h1]
    exact h.errs (errs_now (by decide) h2 h3)
theorem same_af {k i : Nat} (h : At s k i) (h1 : (tok s i).kind ≠ 1) (ns : List NodeT) (V : List Int) (O : List MarkT) : RunsS (s := s) (mk k i ns V O true) (mk k (Qxb6500272aGreat.skip s i) ns V O true) := by
  refine same_step ?_
  rw [step_af h h1, step_af h.skip (by rw [tok_skip]; exact h1), skip_skip, tok_skip]
theorem same_at {k i : Nat} (h : At s k i) (h1 : (tok s i).kind ≠ 1) (ns : List NodeT) (V : List Int) (O : List MarkT) : RunsS (s := s) (mk k i ns V O false) (mk k (Qxb6500272aGreat.skip s i) ns V O false) := by
  refine same_step ?_
  rw [step_at h h1, step_at h.skip (by rw [tok_skip]; exact h1), skip_skip, tok_skip]
end
end Go.Proofs.Qxb6500272aGreat
