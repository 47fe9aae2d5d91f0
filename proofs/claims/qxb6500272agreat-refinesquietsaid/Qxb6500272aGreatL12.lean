/-
  Plain laws, the parser: the model's parse computes PT.
-/
import Derived.Test.Qxb6500272aGreatL11
namespace Go.Proofs.Qxb6500272aGreat
open Go
set_option linter.unusedVariables false
set_option linter.unusedSimpArgs false
theorem ch_0 {s : List UInt8} {i : Nat} (h : (tok s i).kind ≠ 1) : ch s i = 0 ↔ (tok s i).kind = 0 := by
  obtain ⟨_, _, _, v4, v5⟩ := tok_view s i
  rw [v5]
  constructor
  · intro hc hl
    exact h (v4.2 ⟨hl, by rw [hc]; decide⟩)
  · intro hl
    unfold ch
    rw [if_neg hl]
theorem s120_ok (n : Nat) (hn : 1000 ≤ n) (S : FMS) (s : List UInt8) : s120 n S s = some ({ S with parses := IntKind.wrap .i64 (S.parses + 1), last := s }, PT s) := by
  unfold s120 PT
  by_cases hl : 40 < s.length
  · rw [if_pos (by omega), if_pos hl]
  rw [if_neg (by omega), if_neg hl]
  have hs : s.length ≤ 40 := by omega
  have hrem : rem s 0 ≤ 41 := by
    have := toksFrom_len s 0 (Nat.zero_le _)
    unfold rem
    omega
  obtain ⟨x, hx, hx2⟩ := D_ends s (10 * rem s 0 + 5) (.expr false) 0 [] (Nat.zero_le _) (by show _ + 5 ≤ _; exact Nat.le_refl _)
  have hr : RR s (OK1 s) x (s144 n ⟨s, 0, [], 0, 0⟩ false) := (ra s hs hn (10 * rem s 0 + 5) (by omega)).expr false 0 [] x n (Nat.zero_le _) hx (by omega)
  rcases hr.cases with ⟨e, p, i, ns, v, rfl, h2, h3, h4⟩ | ⟨v, j, ns, rfl, h2, ⟨h3, h5⟩, h4⟩
  · have hd : DT s = ⟨[], -1, e, p⟩ := by unfold DT; rw [hx]
    rw [hd, bindT h4, bindT (rlookE hs hn h3 ns h2), if_pos rfl]
    unfold k120_1
    rw [if_neg (show ¬ (rds s (skip s i) ns e p).err = 0 from h2)]
    rfl
  · have hl2 := rlook hs hn h2 ns h5
    rw [h3] at hl2
    rw [bindT h4, bindT hl2]
    by_cases h0 : (tok s j).kind = 0
    · have hd : DT s = ⟨ns, (ns.length : Int) - 1, 0, 0⟩ := by unfold DT; rw [hx]; simp only; rw [if_pos h0]
      obtain ⟨w, ms, e1, e2, e3, e4, e5⟩ := (dl s (10 * rem s 0 + 5)).expr false 0 [] _ ⟨by simp, by simp⟩ hx _ _ _ rfl
      rw [hd, if_pos ((ch_0 h5).2 h0)]
      unfold k120_1
      rw [if_pos (show (rds s j ns 0 0).err = 0 from rfl), ckF (by show 0 < ns.length; omega)]
      have hc : s121 ns ns.length = some ns := by
        unfold s121
        have hlen := e4.1
        rw [if_neg (by omega), ckF (by omega), List.take_length]
      refine (bindT hc).trans ?_
      rw [show (ns.length : Int) - 1 = v by omega]
    · have hd : DT s = ⟨[], -1, 3, (skip s j : Nat)⟩ := by unfold DT; rw [hx]; simp only; rw [if_neg h0]
      rw [hd, if_neg (fun h => h0 ((ch_0 h5).1 h)), h3]
      rw [show (rds s j ns 0 0).i = (j : Nat) from rfl, rfail]
      unfold k120_1
      rw [if_neg (show ¬ (rds s j ns 3 (j : Nat)).err = 0 from (by decide : ¬ (3 : Int) = 0))]
      rfl
end Go.Proofs.Qxb6500272aGreat
