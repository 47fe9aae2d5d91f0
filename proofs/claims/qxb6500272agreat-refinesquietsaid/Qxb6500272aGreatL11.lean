/-
  Plain laws, the parser: the model's reader, atoms and words; the model's parse computes PT.
-/
import Derived.Test.Qxb6500272aGreatL10
namespace Go.Proofs.Qxb6500272aGreat
open Go
set_option linter.unusedVariables false
set_option linter.unusedSimpArgs false
section
variable {s : List UInt8} {n_ m : Nat}
/-- What s245 comes to: the bracket is taken, the first argument is due. -/
theorem ra_call (A : RAll s n_ m) (hs : s.length ≤ 40) (hn : 1000 ≤ n_) (hm : m ≤ 900) (fn : Int) (p : Int) (i : Nat) (ns : List NodeT) (x : DRes) (f : Nat) (hi : i < s.length) (hf : 2 * m + 2 ≤ f)
    (d : (if (tok s (i + 1)).kind = 1 then some (.error (2, ((skip s (i + 1) : Nat) : Int)))
          else if (tok s (i + 1)).kind = 41 then some (.error (6, p))
          else D s m (.args fn p 0 (-1)) (skip s (i + 1)) ns) = some x) : RR s Any x ((rc144 n_ f).2.2.2.2.2 (rds s i ns 0 0) fn p) := by
  obtain ⟨f, rfl⟩ : ∃ k, f = k + 1 := ⟨f - 1, by omega⟩
  have e245 : (rc144 n_ (f + 1)).2.2.2.2.2 = s245_b n_ (rc144 n_ f).1 (rc144 n_ f).2.1 (rc144 n_ f).2.2.1 (rc144 n_ f).2.2.2.1 (rc144 n_ f).2.2.2.2.1 (rc144 n_ f).2.2.2.2.2 := by rw [rc144]
  rw [e245]
  have hsk := skip_len s (i + 1) hi
  unfold s245_b
  rw [ckF (by show i64ok ((i : Int) + 1); constructor <;> omega)]
  by_cases c1 : (tok s (i + 1)).kind = 1
  · rw [if_pos c1] at d
    injection d with d
    subst d
    have := rlook1 hs hn (i := i + 1) hi ns c1
    refine RR.err (by decide) (skip s (i + 1)) ns (-1) hsk ?_
    refine (bindT this).trans ?_
    rw [if_neg (show ¬ (0 : Int) = 41 by decide)]
    obtain ⟨k, hk⟩ : ∃ k, n_ = k + 1 := ⟨n_ - 1, by omega⟩
    have e : l245_2 n_ (rc144 n_ f).1 fn p (k + 1) (-1) 0 (rds s (skip s (i + 1)) ns 2 (skip s (i + 1) : Nat)) = some (rds s (skip s (i + 1)) ns 2 (skip s (i + 1) : Nat), -1) := by
      show l245_2_st n_ (rc144 n_ f).1 fn p (l245_2 n_ (rc144 n_ f).1 fn p k) (-1) 0 (rds s (skip s (i + 1)) ns 2 (skip s (i + 1) : Nat)) = _
      unfold l245_2_st k245_1
      rw [if_neg (show ¬ (rds s (skip s (i + 1)) ns 2 (skip s (i + 1) : Nat)).err = 0 from (by decide : ¬ (2 : Int) = 0)), if_neg (by rw [s208_0]; decide), rfailE (by decide)]
    rw [← hk] at e
    exact e
  · rw [if_neg c1] at d
    have hl := rlook hs hn (i := i + 1) hi ns c1
    obtain ⟨_, _, v3, _⟩ := tok_view s (i + 1)
    by_cases c41 : (tok s (i + 1)).kind = 41
    · rw [if_pos c41] at d
      injection d with d
      subst d
      have he := c_end (i := i + 1) hi (by omega) c41
      refine RR.err (by decide) (skip s (i + 1) + 1) ns (-1) he.2 ?_
      refine (bindT hl).trans ?_
      rw [if_pos (((v3 41 (by omega)).1).1 c41), ckF (by show i64ok ((skip s (i + 1) : Nat) + 1); constructor <;> omega)]
      show some ((s146 (rds s (skip s (i + 1) + 1) ns 0 0) 6 p).1, (s146 (rds s (skip s (i + 1) + 1) ns 0 0) 6 p).2) = _
      rw [rfail]
    · rw [if_neg c41] at d
      have : RR s Any x (l245_2 n_ (rc144 n_ f).1 fn p n_ (-1) 0 (rds s (skip s (i + 1)) ns 0 0)) := A.args fn p 0 (-1) _ ns x f n_ hsk d (by omega) (by omega) (by omega) (by omega)
      have e := bindT (f := fun r23 : RDS × Int => if r23.2 = (41 : Int) then ck (i64ok (r23.1.i + (1 : Int))) <| some ((s146 ({ r23.1 with i := r23.1.i + (1 : Int) }) (6 : Int) p).1, (s146 ({ r23.1 with i := r23.1.i + (1 : Int) }) (6 : Int) p).2)
        else (l245_2 n_ (rc144 n_ f).1 fn p n_ (-1 : Int) (0 : Int) r23.1)) hl
      rw [if_neg (fun h => c41 (((v3 41 (by omega)).1).2 h))] at e
      rw [← e] at this
      exact this
theorem rword (hs : s.length ≤ 40) (hn : 1000 ≤ n_) {i : Nat} (hi : i ≤ s.length) (ns : List NodeT) (e p : Int) : s242 n_ (rds s i ns e p) = some (rds s (wEnd s i) ns e p, wordAt s i (wEnd s i)) := by
  rw [s242_ok (i := i) (by show s.length ≤ 1100; omega) (by show s.length < n_; omega) (by exact hi) rfl]
  rfl
theorem wordAt_len (j e : Nat) : (wordAt s j e).length ≤ s.length := by
  unfold wordAt
  simp
  omega
theorem rref (hs : s.length ≤ 40) (hn : 1000 ≤ n_) (j e : Nat) : s243 n_ (wordAt s j e) = some (outR (refOf (wordAt s j e))) := s243_ok (by have := wordAt_len (s := s) j e; omega) (by omega)
/-- The token at hand is a reference exactly if the word at hand reads so. -/
theorem tok_ref {i : Nat} (hi : i ≤ s.length) : ((tok s i).kind = 4 → refOf (wordAt s (skip s i) (wEnd s (skip s i))) = some (tok s i).r ∧ (tok s i).end_.toNat = wEnd s (skip s i)) ∧ ((tok s i).kind ≠ 4 → refOf (wordAt s (skip s i) (wEnd s (skip s i))) = none) := by
  have hsk := skip_len s i hi
  rcases tok_cases s i with ⟨h1, h2, h3⟩ | ⟨h1, h2, h3 | h3 | h3⟩
  · rw [h3]
    refine ⟨fun h => absurd h (by show ¬ (0 : Int) = 4; decide), fun _ => ?_⟩
    have : wEnd s (skip s i) = skip s i := by rw [wEnd_eq, dif_neg (fun h => h1 h.1)]
    rw [this]
    have : wordAt s (skip s i) (skip s i) = [] := by unfold wordAt; simp
    rw [this]; rfl
  · -- a digit first
    rw [h3.2]
    have hk := numTok_kind s (skip s i)
    refine ⟨fun h => by omega, fun _ => ?_⟩
    have hd := (s163_iff _).1 h3.1
    rw [h2] at hd
    have hw : s165 (bt s (skip s i)) = true := (s165_iff _).2 (by omega)
    have e1 : wEnd s (skip s i) = wEnd s (skip s i + 1) := by conv => lhs; rw [wEnd_eq, dif_pos ⟨h1, hw⟩]
    have hle := wEnd_le s (skip s i + 1)
    have hw2 : wordAt s (skip s i) (wEnd s (skip s i)) = s.getD (skip s i) 0 :: wordAt s (skip s i + 1) (wEnd s (skip s i + 1)) := by
      rw [← e1]
      unfold wordAt
      rw [e1, List.drop_eq_getElem_cons (by simp; omega)]
      congr 1
      rw [List.getElem_take, List.getD_eq_getElem?_getD, List.getElem?_eq_getElem h1]
      rfl
    rw [hw2, refOf_eq]
    simp only
    have hb : ((s.getD (skip s i) 0).toNat : Int) = bt s (skip s i) := rfl
    rw [if_neg (by rw [hb]; omega), refL_no _ _ _ (by rw [hb]; omega)]
  · rw [h3.2.2]
    unfold wordTok
    simp only
    cases hr : refOf (wordAt s (skip s i) (wEnd s (skip s i))) with
    | some r => exact ⟨fun _ => ⟨rfl, rfl⟩, fun h => absurd rfl h⟩
    | none =>
      refine ⟨fun h => ?_, fun _ => rfl⟩
      exfalso
      revert h
      simp only
      repeat' split
      all_goals simp
  · rw [h3.2.2]
    have hk := (sgn_view (skip s i) (ch s i) (nx s i)).2.2.2
    refine ⟨fun h => absurd h hk.1, fun _ => ?_⟩
    have : wEnd s (skip s i) = skip s i := by rw [wEnd_eq, dif_neg (fun h => h3.2.1 (by rw [h2]; exact h.2))]
    rw [this]
    have : wordAt s (skip s i) (skip s i) = [] := by unfold wordAt; simp
    rw [this]; rfl
theorem ra_word (A : RAll s n_ m) (hs : s.length ≤ 40) (hn : 1000 ≤ n_) (hm : m ≤ 900) (r : Bool) (i : Nat) (ns : List NodeT) (x : DRes) (f : Nat) (hi : i ≤ s.length) (hj : skip s i < s.length) (ht : tok s i = wordTok s (skip s i)) (d : D s (m + 1) (.atom r) i ns = some x) (hf : 2 * m + 3 ≤ f) : RR s Any x ((rc144 n_ f).2.2.2.2.1 (rds s (skip s i) ns 0 0) r) := by
  obtain ⟨f, rfl⟩ : ∃ k, f = k + 1 := ⟨f - 1, by omega⟩
  have e241 : (rc144 n_ (f + 1)).2.2.2.2.1 = s241_b n_ (rc144 n_ f).1 (rc144 n_ f).2.1 (rc144 n_ f).2.2.1 (rc144 n_ f).2.2.2.1 (rc144 n_ f).2.2.2.2.1 (rc144 n_ f).2.2.2.2.2 := by rw [rc144]
  rw [e241]
  unfold D at d
  simp only at d
  unfold s241_b
  rw [bindT (rword hs hn (skip_len s i hi) ns 0 0)]
  have hwe := wEnd_len s (skip s i) (skip_len s i hi)
  have hd0 := tok_ref (s := s) hi
  generalize hw : wordAt s (skip s i) (wEnd s (skip s i)) = w at hd0
  have hr1 := rref (n_ := n_) hs hn (skip s i) (wEnd s (skip s i))
  rw [hw] at hr1
  unfold wordTok at ht
  simp only [hw] at ht
  by_cases hT : w = [84, 82, 85, 69]
  · rw [if_pos (by rw [hT]; rfl)]
    have h0 : refOf w = none := by rw [hT]; rfl
    rw [h0] at ht
    simp only at ht
    rw [if_pos hT] at ht
    rw [ht] at d
    rw [if_neg (show ¬ (2 : Int) = 1 by decide), if_pos (show (2 : Int) = 2 from rfl)] at d
    injection d with d
    subst d
    rw [bind_eta]
    exact radd Any hwe trivial _ _
  by_cases hF : w = [70, 65, 76, 83, 69]
  · rw [if_neg (by simpa using hT), if_pos (by rw [hF]; rfl)]
    have h0 : refOf w = none := by rw [hF]; rfl
    rw [h0] at ht
    simp only at ht
    rw [if_neg hT, if_pos hF] at ht
    rw [ht] at d
    rw [if_neg (show ¬ (2 : Int) = 1 by decide), if_pos (show (2 : Int) = 2 from rfl)] at d
    injection d with d
    subst d
    rw [bind_eta]
    exact radd Any hwe trivial _ _
  rw [if_neg (by simpa using hT), if_neg (by simpa using hF), bindT hr1]
  cases hr : refOf w with
  | some q =>
    rw [hr] at ht
    simp only at ht
    rw [if_pos (show (outR (some q)).2 = true from rfl)]
    have hk : (tok s i).kind = 4 := by rw [ht]
    have hq : (tok s i).r = q := by rw [ht]
    have het : (tok s i).end_.toNat = wEnd s (skip s i) := by rw [ht]; rfl
    rw [if_neg (by omega), if_neg (by omega), if_neg (by omega), if_pos hk, het, hq] at d
    generalize wEnd s (skip s i) = i1 at *
    have hsk1 := skip_len s i1 hwe
    obtain ⟨_, _, v3, _⟩ := tok_view s i1
    by_cases c1 : (tok s i1).kind = 1
    · rw [if_pos c1] at d
      injection d with d
      subst d
      rw [bindT (rlook1 hs hn hwe ns c1), if_neg (show ¬ (0 : Int) = 58 by decide), bind_eta]
      exact RR.err (by decide) _ _ _ hsk1 (raddE (by decide) _)
    rw [if_neg c1] at d
    rw [bindT (rlook hs hn hwe ns c1)]
    by_cases c58 : (tok s i1).kind = 58
    · have he := c_end hwe (by omega) c58
      rw [if_pos c58, he.1] at d
      rw [if_pos (((v3 58 (by omega)).1).1 c58), ckF (by show i64ok ((skip s i1 : Nat) + 1); constructor <;> omega)]
      show RR s Any x ((s145 n_ (rds s (skip s i1 + 1) ns 0 0)).bind _)
      have hi2 := he.2
      generalize skip s i1 + 1 = i2 at d hi2 ⊢
      have hsk2 := skip_len s i2 hi2
      have hwe2 := wEnd_len s (skip s i2) hsk2
      obtain ⟨t1, t2⟩ := tok_ref (s := s) hi2
      by_cases d1 : (tok s i2).kind = 1
      · rw [if_pos d1] at d
        injection d with d
        subst d
        rw [bindT (rlook1 hs hn hi2 ns d1), bindT (rword hs hn hsk2 ns 2 _), bindT (rref hs hn _ _)]
        refine RR.err (by decide) (wEnd s (skip s i2)) ns (-1) hwe2 ?_
        split
        · split
          · rw [bind_eta]; exact raddE (by decide) _
          · rw [rfailE (by decide)]
        · rw [rfailE (by decide)]
      rw [if_neg d1] at d
      rw [bindT (rlook hs hn hi2 ns d1), bindT (rword hs hn hsk2 ns 0 0), bindT (rref hs hn _ _)]
      by_cases d4 : (tok s i2).kind = 4
      · obtain ⟨t3, t4⟩ := t1 d4
        rw [if_pos d4, t4] at d
        rw [t3, if_pos (show (outR (some (tok s i2).r)).2 = true from rfl)]
        by_cases hrr : r = true
        · rw [if_pos hrr] at d ⊢
          injection d with d
          subst d
          rw [bind_eta]
          exact radd Any hwe2 trivial _ _
        · rw [if_neg hrr] at d ⊢
          injection d with d
          subst d
          show RR s Any _ (some ((s146 (rds s (wEnd s (skip s i2)) ns 0 0) 6 (skip s i : Nat)).1, (s146 (rds s (wEnd s (skip s i2)) ns 0 0) 6 (skip s i : Nat)).2))
          rw [rfail]
          exact RR.err (by decide) _ _ _ hwe2 rfl
      · rw [if_neg d4] at d
        injection d with d
        subst d
        rw [t2 d4, if_neg (show ¬ (outR none).2 = true by decide)]
        show RR s Any _ (some ((s146 (rds s (wEnd s (skip s i2)) ns 0 0) 3 (skip s i2 : Nat)).1, (s146 (rds s (wEnd s (skip s i2)) ns 0 0) 3 (skip s i2 : Nat)).2))
        rw [rfail]
        exact RR.err (by decide) _ _ _ hwe2 rfl
    · rw [if_neg c58] at d
      injection d with d
      subst d
      rw [if_neg (fun h => c58 (((v3 58 (by omega)).1).2 h)), bind_eta]
      exact radd Any hsk1 trivial _ _
  | none =>
    rw [hr] at ht
    simp only at ht
    rw [if_neg hT, if_neg hF] at ht
    rw [if_neg (show ¬ (outR none).2 = true by decide), bindT (s244_ok (by omega))]
    by_cases hx : fIdx w = 0
    · rw [if_pos hx] at ht ⊢
      have hk : (tok s i).kind = 3 := by rw [ht]
      have hq : (tok s i).n = 5 := by rw [ht]
      rw [if_neg (by omega), if_neg (by omega), if_pos hk, hq] at d
      injection d with d
      subst d
      show RR s Any _ (some ((s146 (rds s (wEnd s (skip s i)) ns 0 0) 5 (skip s i : Nat)).1, (s146 (rds s (wEnd s (skip s i)) ns 0 0) 5 (skip s i : Nat)).2))
      rw [rfail]
      exact RR.err (by decide) _ _ _ hwe rfl
    · rw [if_neg hx] at ht ⊢
      have hk : (tok s i).kind = 5 := by rw [ht]
      have hq : (tok s i).n = fIdx w := by rw [ht]
      have het : (tok s i).end_.toNat = wEnd s (skip s i) := by rw [ht]; rfl
      rw [if_neg (by omega), if_neg (by omega), if_neg (by omega), if_neg (by omega), if_pos hk, het, hq] at d
      generalize wEnd s (skip s i) = i1 at *
      have hsk1 := skip_len s i1 hwe
      obtain ⟨_, _, v3, _⟩ := tok_view s i1
      by_cases c1 : (tok s i1).kind = 1
      · rw [if_pos c1] at d
        injection d with d
        subst d
        rw [bindT (rlook1 hs hn hwe ns c1), if_neg (show ¬ (0 : Int) = 40 by decide), rfailE (by decide)]
        exact RR.err (by decide) _ _ _ hsk1 rfl
      rw [if_neg c1] at d
      rw [bindT (rlook hs hn hwe ns c1)]
      by_cases c40 : (tok s i1).kind = 40
      · have he := c_end hwe (by omega) c40
        rw [if_pos c40, he.1] at d
        rw [if_pos (((v3 40 (by omega)).1).1 c40), bind_eta]
        exact ra_call A hs hn hm _ _ _ ns x f (by omega) (by omega) d
      · rw [if_neg c40] at d
        injection d with d
        subst d
        rw [if_neg (fun h => c40 (((v3 40 (by omega)).1).2 h))]
        show RR s Any _ (some ((s146 (rds s (skip s i1) ns 0 0) 5 (skip s i : Nat)).1, (s146 (rds s (skip s i1) ns 0 0) 5 (skip s i : Nat)).2))
        rw [rfail]
        exact RR.err (by decide) _ _ _ hsk1 rfl
theorem ra_atom (A : RAll s n_ m) (hs : s.length ≤ 40) (hn : 1000 ≤ n_) (hm : m ≤ 900) (r : Bool) (i : Nat) (ns : List NodeT) (x : DRes) (f : Nat) (hi : i ≤ s.length) (d : D s (m + 1) (.atom r) i ns = some x) (hf : 2 * (m + 1) + 2 ≤ f) : RR s Any x ((rc144 n_ f).2.2.2.1 (rds s i ns 0 0) r) := by
  obtain ⟨f, rfl⟩ : ∃ k, f = k + 1 := ⟨f - 1, by omega⟩
  have e231 : (rc144 n_ (f + 1)).2.2.2.1 = s231_b n_ (rc144 n_ f).1 (rc144 n_ f).2.1 (rc144 n_ f).2.2.1 (rc144 n_ f).2.2.2.1 (rc144 n_ f).2.2.2.2.1 (rc144 n_ f).2.2.2.2.2 := by rw [rc144]
  have hsk := skip_len s i hi
  by_cases c1 : (tok s i).kind = 1
  · rw [e231]
    unfold D at d
    simp only at d
    rw [if_pos c1] at d
    injection d with d
    subst d
    unfold s231_b
    rw [bindT (rlook1 hs hn hi ns c1)]
    rw [if_neg (show ¬ (48 : Int) ≤ 0 by decide), if_neg (show ¬ (65 : Int) ≤ 0 by decide), if_neg (show ¬ (0 : Int) = 36 by decide), if_neg (show ¬ (0 : Int) = 35 by decide), if_neg (show ¬ (0 : Int) = 40 by decide)]
    rw [rfailE (by decide)]
    exact RR.err (by decide) _ _ _ hsk rfl
  have hl := rlook hs hn hi ns c1
  unfold D at d
  simp only at d
  rw [if_neg c1] at d
  rw [e231]
  unfold s231_b
  rw [bindT hl]
  have other : (tok s i).kind ≠ 2 → (tok s i).kind ≠ 3 → (tok s i).kind ≠ 4 → (tok s i).kind ≠ 5 → (tok s i).kind ≠ 40 → RR s Any x (some ((s146 (rds s (skip s i) ns 0 0) (3 : Int) (skip s i : Nat)).1, (s146 (rds s (skip s i) ns 0 0) (3 : Int) (skip s i : Nat)).2)) := by
    intro k2 k3 k4 k5 k40
    rw [if_neg k2, if_neg k3, if_neg k4, if_neg k5, if_neg k40] at d
    injection d with d
    subst d
    rw [rfail]
    exact RR.err (by decide) _ _ _ hsk rfl
  by_cases hdg : 48 ≤ ch s i ∧ ch s i ≤ 57
  · -- a number
    rw [if_pos hdg.1, if_pos hdg.2]
    have h163 := (s163_iff _).2 hdg
    have ht : tok s i = numTok s (skip s i) := by
      rcases tok_cases s i with ⟨h1, h2, h3⟩ | ⟨h1, h2, h3 | h3 | h3⟩
      · omega
      · exact h3.2
      · exact absurd h163 h3.1
      · exact absurd h163 h3.1
    have hl2 := l231_ok n_ (rds s (skip s i) ns 0 0, ch s i) (skip s i) rfl (by show s.length ≤ 1100; omega) n_ (skip s i) 0 (by show s.length - _ < _; omega) (Nat.le_refl _) hsk (by unfold Dg; omega)
    have hl2 : l231_1 n_ (rds s (skip s i) ns 0 0, ch s i) n_ 0 (rds s (skip s i) ns 0 0) = if ((digRun s (skip s i) (skip s i) 0).1 : Int) - (skip s i : Nat) > 9 then some (s146 (rds s (digRun s (skip s i) (skip s i) 0).1 ns 0 0) 4 (skip s i : Nat)) else s188 (rds s (digRun s (skip s i) (skip s i) 0).1 ns 0 0) (numNode (digRun s (skip s i) (skip s i) 0).2) := hl2
    have hdl := digRun_len s (skip s i) (skip s i) 0 hsk
    show RR s Any x (l231_1 n_ (rds s (skip s i) ns 0 0, ch s i) n_ 0 (rds s (skip s i) ns 0 0))
    rw [hl2]
    unfold numTok at ht
    by_cases h9 : ((digRun s (skip s i) (skip s i) 0).1 : Int) - (skip s i : Nat) > 9
    · rw [if_pos h9] at ht ⊢
      rw [ht, if_neg (show ¬ (3 : Int) = 2 by decide), if_pos (show (3 : Int) = 3 from rfl)] at d
      injection d with d
      subst d
      rw [rfail]
      exact RR.err (show (4 : Int) ≠ 0 by decide) _ _ _ hdl rfl
    · rw [if_neg h9] at ht ⊢
      rw [ht, if_pos (show (2 : Int) = 2 from rfl)] at d
      injection d with d
      subst d
      exact radd Any hdl trivial _ _
  by_cases hwd : (65 ≤ ch s i ∧ ch s i ≤ 90) ∨ ch s i = 36
  · -- a word
    have h163 : ¬ s163 (ch s i) = true := fun h => hdg ((s163_iff _).1 h)
    have h165 : s165 (ch s i) = true := (s165_iff _).2 (by omega)
    have hlt : skip s i < s.length ∧ tok s i = wordTok s (skip s i) := by
      rcases tok_cases s i with ⟨h1, h2, h3⟩ | ⟨h1, h2, h3 | h3 | h3⟩
      · omega
      · exact absurd h3.1 h163
      · exact ⟨h1, h3.2.2⟩
      · exact absurd h165 h3.2.1
    have hw := ra_word A hs hn hm r i ns x f hi hlt.1 hlt.2 (by unfold D; simp only; rw [if_neg c1]; exact d) (by omega)
    rcases hwd with hwd | hwd
    · rw [if_pos (show (48 : Int) ≤ ch s i by omega), if_neg (show ¬ ch s i ≤ 57 by omega), if_pos (show (65 : Int) ≤ ch s i by omega), if_pos (show ch s i ≤ 90 by omega), bind_eta]
      exact hw
    · rw [if_neg (show ¬ (48 : Int) ≤ ch s i by omega), if_neg (show ¬ (65 : Int) ≤ ch s i by omega), if_pos hwd, bind_eta]
      exact hw
  have hsg : (¬ skip s i < s.length ∧ ch s i = 0 ∧ tok s i = ⟨0, s.length, s.length, 0, 0, dRef⟩) ∨ (skip s i < s.length ∧ tok s i = sgn (skip s i) (ch s i) (nx s i)) := by
    rcases tok_cases s i with h | ⟨h1, h2, h3 | h3 | h3⟩
    · exact .inl h
    · exact absurd ((s163_iff _).1 h3.1) hdg
    · exact absurd ((s165_iff _).1 h3.2.1) (by omega)
    · exact .inr ⟨h1, h3.2.2⟩
  by_cases h35 : ch s i = 35
  · rw [if_neg (show ¬ (48 : Int) ≤ ch s i by omega), if_neg (show ¬ (65 : Int) ≤ ch s i by omega), if_neg (show ¬ ch s i = 36 by omega), if_pos h35, ckF (by show i64ok ((skip s i : Nat) + 1); constructor <;> omega)]
    rcases hsg with ⟨h1, h2, h3⟩ | ⟨hlt, ht⟩
    · omega
    have hn1 := nx_eq hlt
    have hn1 : nx s i = if ((skip s i : Nat) : Int) + 1 < (s.length : Int) then ((List.getD s (skip s i + 1) 0).toNat : Int) else 0 := hn1
    have e35 : sgn (skip s i) (ch s i) (nx s i) = if nx s i = 35 then ⟨2, (skip s i : Nat), ((skip s i : Nat) : Int) + 2, 5, 0, dRef⟩ else ⟨3, (skip s i : Nat), ((skip s i : Nat) : Int) + 1, 0, 2, dRef⟩ := by rw [h35]; rfl
    rw [e35] at ht
    have bad : nx s i ≠ 35 → RR s Any x (some ((s146 (rds s (skip s i) ns 0 0) (2 : Int) (skip s i : Nat)).1, (s146 (rds s (skip s i) ns 0 0) (2 : Int) (skip s i : Nat)).2)) := by
      intro hne
      rw [if_neg hne] at ht
      rw [ht, if_neg (show ¬ (3 : Int) = 2 by decide), if_pos (show (3 : Int) = 3 from rfl)] at d
      injection d with d
      subst d
      rw [rfail]
      exact RR.err (show (2 : Int) ≠ 0 by decide) _ _ _ hsk rfl
    by_cases hl3 : ((skip s i : Nat) : Int) + 1 < (s.length : Int)
    · rw [if_pos hl3] at hn1
      rw [if_neg (by show ¬ (s.length : Int) ≤ ((skip s i : Nat) : Int) + 1; omega), ckF (by show 0 ≤ ((skip s i : Nat) : Int) + 1 ∧ ((skip s i : Nat) : Int) + 1 < (s.length : Int); omega)]
      have hg : ((List.getD (rds s (skip s i) ns 0 0, ch s i).1.s (Int.toNat ((rds s (skip s i) ns 0 0, ch s i).1.i + (1 : Int))) 0).toNat : Int) = nx s i := by
        rw [hn1]
        show ((List.getD s (Int.toNat (((skip s i : Nat) : Int) + 1)) 0).toNat : Int) = _
        rw [show Int.toNat (((skip s i : Nat) : Int) + 1) = skip s i + 1 by omega]
      rw [hg]
      by_cases h2 : nx s i = 35
      · rw [if_pos h2] at ht ⊢
        rw [ht, if_pos (show (2 : Int) = 2 from rfl)] at d
        injection d with d
        subst d
        rw [ckF (by show i64ok ((skip s i : Nat) + 2); constructor <;> omega), bind_eta]
        have := radd (s := s) Any (i := skip s i + 2) (by omega) trivial ns (leafN 5 0)
        exact this
      · rw [if_neg h2]
        exact bad h2
    · rw [if_neg hl3] at hn1
      rw [if_pos (by show (s.length : Int) ≤ ((skip s i : Nat) : Int) + 1; omega)]
      exact bad (by omega)
  by_cases h40 : ch s i = 40
  · rw [if_neg (show ¬ (48 : Int) ≤ ch s i by omega), if_neg (show ¬ (65 : Int) ≤ ch s i by omega), if_neg (show ¬ ch s i = 36 by omega), if_neg h35, if_pos h40, ckF (by show i64ok ((skip s i : Nat) + 1); constructor <;> omega)]
    have hk : (tok s i).kind = 40 := (((tok_view s i).2.2.1 40 (by omega)).1).2 h40
    have he := c_end hi (by omega) hk
    rw [if_neg (by omega), if_neg (by omega), if_neg (by omega), if_neg (by omega), if_pos hk, he.1] at d
    show RR s Any x (((rc144 n_ f).1 (rds s (skip s i + 1) ns 0 0) false).bind _)
    refine RR.bind d (fun y hy => A.expr false _ ns y f he.2 hy (by omega)) (fun e p i ns v q1 q2 => ?_) (fun v j ns q1 q2 d2 => ?_)
    · refine ⟨skip s i, ns, -1, skip_len s i q2, ?_⟩
      rw [bindT (rlookE hs hn q2 ns q1), if_neg (show ¬ (0 : Int) = 41 by decide), rfailE q1]
    · obtain ⟨hskj, cj⟩ := q2
      have hlj := rlook hs hn q1 ns cj
      rw [hskj] at hlj d2
      obtain ⟨_, _, v3, _⟩ := tok_view s j
      rw [bindT hlj]
      by_cases c41 : (tok s j).kind = 41
      · have he := c_end q1 (by omega) c41
        rw [hskj] at he
        rw [if_pos c41, he.1] at d2
        injection d2 with d2
        subst d2
        rw [if_pos (((v3 41 (by omega)).1).1 c41), ckF (by show i64ok ((j : Int) + 1); constructor <;> omega)]
        exact ⟨he.2, trivial, rfl⟩
      · rw [if_neg c41] at d2
        injection d2 with d2
        subst d2
        rw [if_neg (fun h => c41 (((v3 41 (by omega)).1).2 h)), show (rds s j ns 0 0).i = (j : Nat) from rfl, rfail]
        exact RR.err (by decide) _ _ _ q1 rfl
  -- anything else
  have hoth : RR s Any x (some ((s146 (rds s (skip s i) ns 0 0) (3 : Int) (skip s i : Nat)).1, (s146 (rds s (skip s i) ns 0 0) (3 : Int) (skip s i : Nat)).2)) := by
    have hk40 : (tok s i).kind ≠ 40 := fun h => h40 ((((tok_view s i).2.2.1 40 (by omega)).1).1 h)
    rcases hsg with ⟨h1, h2, h3⟩ | ⟨hlt, ht⟩
    · rw [h3] at other hk40
      exact other (by show (0 : Int) ≠ 2; decide) (by show (0 : Int) ≠ 3; decide) (by show (0 : Int) ≠ 4; decide) (by show (0 : Int) ≠ 5; decide) hk40
    · have hv := (sgn_view (skip s i) (ch s i) (nx s i)).2
      rw [← ht] at hv
      exact other (hv.2.1 h35).1 (hv.2.1 h35).2 hv.2.2.1 hv.2.2.2 hk40
  by_cases g1 : (48 : Int) ≤ ch s i
  · rw [if_pos g1, if_neg (show ¬ ch s i ≤ 57 by omega)]
    by_cases g2 : (65 : Int) ≤ ch s i
    · rw [if_pos g2, if_neg (show ¬ ch s i ≤ 90 by omega), if_neg (show ¬ ch s i = 36 by omega), if_neg h35, if_neg h40]
      exact hoth
    · rw [if_neg g2, if_neg (show ¬ ch s i = 36 by omega), if_neg h35, if_neg h40]
      exact hoth
  · rw [if_neg g1, if_neg (show ¬ (65 : Int) ≤ ch s i by omega), if_neg (show ¬ ch s i = 36 by omega), if_neg h35, if_neg h40]
    exact hoth
end
theorem ra (s : List UInt8) {n_ : Nat} (hs : s.length ≤ 40) (hn : 1000 ≤ n_) : ∀ m, m ≤ 900 → RAll s n_ m := by
  intro m
  induction m with
  | zero =>
    intro _
    constructor
    all_goals intros
    all_goals exact absurd ‹D s 0 _ _ _ = some _› (by simp [D])
  | succ m ih =>
    intro hm
    have A := ih (by omega)
    exact ⟨fun r i ns x f hi d hf => ra_expr A hs hn (by omega) r i ns x f hi d hf, fun r i ns x f hi d hf => ra_chain2 A hs hn (by omega) r i ns x f hi d hf, fun a i ns x f lf hi d hf hl => ra_loop2 A hs hn a i ns x f lf hi d hf hl,
      fun r i ns x f hi d hf => ra_chain3 A hs hn (by omega) r i ns x f hi d hf, fun a i ns x f lf hi d hf hl => ra_loop3 A hs hn a i ns x f lf hi d hf hl, fun r i ns x f hi d hf => ra_unary A hs hn r i ns x f hi d hf,
      fun r i ns x f hi d hf => ra_atom A hs hn (by omega) r i ns x f hi d hf, fun fn p n l i ns x f lf hi d hf hl h0 hb => ra_args A hs hn fn p n l i ns x f lf hi d hf hl h0 hb⟩
end Go.Proofs.Qxb6500272aGreat
