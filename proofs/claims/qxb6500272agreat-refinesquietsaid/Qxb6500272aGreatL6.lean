/-
  Plain laws, the parser: the program's parse computes DT; the machine's run is short.
-/
import Derived.Test.Qxb6500272aGreatL5
namespace Go.Proofs.Qxb6500272aGreat
open Go
set_option linter.unusedVariables false
set_option linter.unusedSimpArgs false

/-! ### Each step takes a token or is the last -/
def Fwd (M N : Mc) : Prop := N.err ≠ 0 ∨ N.done = true ∨ M.k < N.k
theorem joinM_k (M : Mc) : (joinM M).k = M.k ∧ (M.V ≠ [] → (joinM M).V ≠ []) := by
  unfold joinM
  split
  · dsimp only
    rename_i m O b a V _ _
    exact ⟨(addM_O { M with O := O, V := a :: V } (binN m.op a b)).2.2.1, fun _ => by simp⟩
  · exact ⟨rfl, fun h => h⟩
theorem finM_k (M : Mc) : (finM M).k = M.k := by
  unfold finM
  dsimp only
  split
  · exact (joinM_k M).1
  · rfl
theorem settleN_k : ∀ (n : Nat) (M : Mc), (settleN n M).k = M.k := by
  intro n
  induction n with
  | zero => intro M; rfl
  | succ n ih =>
    intro M
    unfold settleN
    split
    · split
      · rename_i m O a V _ _ _
        dsimp only
        rw [ih]
        exact (addM_O { M with O := O } (negN a)).2.2.1
      · exact finM_k M
    · exact finM_k M
theorem settleM_k (M : Mc) : (settleM M).k = M.k := settleN_k _ M
theorem wholeM_k (M : Mc) (x : NodeT) : (wholeM M x).k = M.k := by
  unfold wholeM
  dsimp only
  rw [settleM_k]
  exact (addM_O M x).2.2.1
theorem endM_fwd {T : Nat → TokT} {t : TokT} {M : Mc} {m : MarkT} {O : List MarkT} : Fwd M (endM T t M m O) := by
  unfold endM
  split
  · split
    · exact .inr (.inr (by rw [settleM_k]; exact Nat.lt_succ_self _))
    · split
      · exact .inr (.inr (by rw [wholeM_k]; exact Nat.lt_succ_self _))
      · exact .inl (failM_err (by decide))
  · exact .inl (failM_err (by decide))
theorem closeM_fwd {T : Nat → TokT} {t : TokT} {M : Mc} (hV : M.V ≠ []) : Fwd M (closeM T t M) := by
  cases hO : M.O with
  | nil =>
    rw [closeM_nil hO]
    exact .inr (.inl rfl)
  | cons m O =>
    by_cases h4 : m.kind = 4
    · cases hV2 : M.V with
      | nil => exact absurd hV2 hV
      | cons a V =>
        rw [closeM_call hO hV2 h4]
        have hk := (addM_O { M with V := V } (argN a m.link)).2.2.1
        split
        · refine .inr (.inr ?_)
          show M.k < (addM { M with V := V } (argN a m.link)).1.k + 1
          rw [hk]
          exact Nat.lt_succ_self _
        · rcases endM_fwd (T := T) (t := t) (M := { (addM { M with V := V } (argN a m.link)).1 with O := { m with n := m.n + 1, link := (addM { M with V := V } (argN a m.link)).2 } :: O }) (m := { m with n := m.n + 1, link := (addM { M with V := V } (argN a m.link)).2 }) (O := O) with h | h | h
          · exact .inl h
          · exact .inr (.inl h)
          · exact .inr (.inr (by have h : (addM { M with V := V } (argN a m.link)).1.k < _ := h; rw [hk] at h; exact h))
    · rw [closeM_other hO h4]; exact endM_fwd
theorem opM_fwd {T : Nat → TokT} {t : TokT} {M : Mc} (hV : M.V ≠ []) : Fwd M (opM T t M) := by
  unfold opM
  split
  · exact absurd ‹_› hV
  · split
    · exact .inl (failM_err (by decide))
    · exact .inr (.inr (Nat.lt_succ_self _))
theorem after3_fwd {T : Nat → TokT} {t : TokT} {x : Int} {M : Mc} (hV : M.V ≠ []) : Fwd M (after3 T t x M) := by
  unfold after3
  split
  · exact closeM_fwd hV
  · exact opM_fwd hV
theorem Fwd.of {M M' N : Mc} (h : Fwd M' N) (e : M'.k = M.k) : Fwd M N := by
  unfold Fwd at *
  rw [e] at h
  exact h
theorem after2_fwd {T : Nat → TokT} {t : TokT} {x : Int} {M : Mc} (hV : M.V ≠ []) : Fwd M (after2 T t x M) := by
  unfold after2
  split
  · exact (after3_fwd ((joinM_k M).2 hV)).of (joinM_k M).1
  · exact after3_fwd hV
theorem after1_fwd {T : Nat → TokT} {t : TokT} {x : Int} {M : Mc} (hV : M.V ≠ []) : Fwd M (after1 T t x M) := by
  unfold after1
  split
  · exact (after2_fwd ((joinM_k M).2 hV)).of (joinM_k M).1
  · exact after2_fwd hV
theorem refM_fwd {T : Nat → TokT} {t : TokT} {M : Mc} : Fwd M (refM T t M) := by
  unfold refM
  dsimp only
  have h1 : (lookM T (takeM T M)).k = M.k + 1 := (lookM_O T (takeM T M)).2.2.1
  have h2 : (lookM T (takeM T (lookM T (takeM T M)))).k = M.k + 2 := by rw [(lookM_O T _).2.2.1]; show (lookM T (takeM T M)).k + 1 = _; rw [h1]
  split
  · split
    · split
      · refine .inr (.inr ?_)
        rw [wholeM_k]
        show M.k < (lookM T (takeM T (lookM T (takeM T M)))).k + 1
        omega
      · exact .inl (failM_err (by decide))
    · exact .inl (failM_err (by decide))
  · refine .inr (.inr ?_)
    rw [wholeM_k]
    omega
theorem callM_fwd {T : Nat → TokT} {t : TokT} {M : Mc} : Fwd M (callM T t M) := by
  unfold callM
  dsimp only
  have h1 : (lookM T (takeM T M)).k = M.k + 1 := (lookM_O T (takeM T M)).2.2.1
  have h2 : (lookM T (takeM T (lookM T (takeM T M)))).k = M.k + 2 := by rw [(lookM_O T _).2.2.1]; show (lookM T (takeM T M)).k + 1 = _; rw [h1]
  split
  · split
    · exact .inl (failM_err (by decide))
    · refine .inr (.inr ?_)
      show M.k < (lookM T (takeM T (lookM T (takeM T M)))).k
      omega
  · exact .inl (failM_err (by decide))
theorem atomM_fwd {T : Nat → TokT} {M : Mc} (hfl : (T M.k).kind = 3 → (T M.k).n ≠ 0) : Fwd M (atomM T M) := by
  have hk : (lookM T M).k = M.k := (lookM_O T M).2.2.1
  unfold atomM
  dsimp only
  split
  · refine .inr (.inr ?_)
    rw [wholeM_k]
    show M.k < (lookM T M).k + 1
    omega
  split
  · exact refM_fwd.of hk
  split
  · exact callM_fwd.of hk
  split
  · refine .inr (.inr ?_)
    show M.k < (lookM T M).k + 1
    omega
  split
  · exact .inl (failM_err (hfl ‹_›))
  split
  · split
    · refine .inr (.inr ?_)
      show M.k < (lookM T M).k + 1
      omega
    · exact .inl (failM_err (by decide))
  · exact .inl (failM_err (by decide))
theorem stepM_fwd {T : Nat → TokT} {M : Mc} (hfl : (T M.k).kind = 3 → (T M.k).n ≠ 0) (hV : M.hv = true → M.V ≠ []) : Fwd M (stepM T M) := by
  unfold stepM
  by_cases hv : M.hv = true
  · rw [if_pos hv]
    unfold afterM
    have hl := lookM_O T M
    exact (after1_fwd (by rw [hl.2.1]; exact hV hv)).of hl.2.2.1
  · rw [if_neg hv]
    exact atomM_fwd hfl
theorem run_end {S0 : FoS} {nt : Nat} {T : Nat → TokT} (tk : Tk nt S0 T) (hfl : ∀ k, k < nt → (T k).kind = 3 → (T k).n ≠ 0) : ∀ (g : Nat) (M : Mc) (S : FoS), FR S0 S M → (M.err ≠ 0 ∨ J nt M (if M.hv = true then 1 else 0)) → nt - M.k ≤ g → (runM T g M).err ≠ 0 ∨ (runM T g M).done = true := by
  intro g
  induction g with
  | zero =>
    intro M S h j hg
    rcases j with j | j
    · exact .inl j
    · have := j.k; omega
  | succ g ih =>
    intro M S h j hg
    show (if _ then _ else _ : Mc).err ≠ 0 ∨ (if _ then _ else _ : Mc).done = true
    by_cases hr : M.err = 0 ∧ M.done = false
    · rw [if_pos hr]
      have j' : J nt M (if M.hv = true then 1 else 0) := by rcases j with h | h; exact absurd hr.1 h; exact h
      obtain ⟨S', e, h', j2⟩ := step_ok (n := 100) tk (Nat.le_refl _) h j' hfl
      have hV : M.hv = true → M.V ≠ [] := by
        intro hv hh
        have := j'.v
        rw [hh, if_pos hv] at this
        simp only [List.length_nil] at this
        omega
      rcases stepM_fwd (T := T) (hfl M.k j'.k) hV with hf | hf | hf
      · rw [runM_stuck hf]; exact .inl hf
      · rw [runM_done hf]; exact .inr hf
      · exact ih (stepM T M) S' h' j2 (by omega)
    · rw [if_neg hr]
      by_cases he : M.err = 0
      · right
        cases hd : M.done with
        | true => rfl
        | false => exact absurd ⟨he, hd⟩ hr
      · exact .inl he
end Go.Proofs.Qxb6500272aGreat
