/-
  Plain laws, values: one operator, two operators, the choice: both sides.
-/
import Derived.Test.Qxb6500272aGreatL8
namespace Go.Proofs.Qxb6500272aGreat
open Go
set_option linter.unusedVariables false
set_option linter.unusedSimpArgs false
theorem s222_eq (a b c : ValT) : s222 a b c = s228 a b c := rfl
theorem s237_eq (z x : Int) : some (s237 z x) = k227_0 z x := by
  unfold s237 k227_0
  repeat' split
  all_goals rfl
theorem s220_eq (z : Int) (a : ValT) : s220 z a = s226 z a := by
  unfold s220 s226 s233 s234 s235 s239
  by_cases h4 : a.kind = 4
  · rw [if_pos h4, if_pos h4]
  rw [if_neg h4, if_neg h4]
  by_cases h8 : z = 8
  · rw [if_pos h8, if_pos h8]
  rw [if_neg h8, if_neg h8]
  by_cases h10 : z = 10
  · rw [if_pos h10, if_pos h10]
    by_cases h2 : a.kind = 2
    · simp [h2]
    · by_cases h0 : a.kind = 0
      · simp [h0]
      · simp [h2, h0]
  rw [if_neg h10, if_neg h10]
  by_cases h1 : a.kind = 1
  · simp [h1]
  · by_cases h0 : a.kind = 0
    · simp [h0]
    · simp [h1, h0]
theorem s236_eq (z x y : Int) (h : 7 ≤ z) : s236 z x y = (if z = (7 : Int) then ck (i64ok (x + y)) <| some (s238 (x + y)) else (if z = (8 : Int) then ck (i64ok (x - y)) <| some (s238 (x - y)) else (if z = (9 : Int) then ck (i64ok (x * y)) <| some (s238 (x * y)) else (if y = (0 : Int) then some (s131 (3 : Int)) else ck (y ≠ 0) <| ck (i64ok (Int.tdiv x y)) <| some (s238 (Int.tdiv x y)))))) := rfl
theorem s221_eq (z : Int) (a b : ValT) : s221 z a b = s227 z a b := by
  unfold s221 s227 s233 s234 s235 s239
  by_cases h4 : a.kind = 4
  · rw [if_pos h4, if_pos h4]
  rw [if_neg h4, if_neg h4]
  by_cases g4 : b.kind = 4
  · rw [if_pos g4, if_pos g4]
  rw [if_neg g4, if_neg g4]
  have kc : ∀ x : Int, k221_0 z x = k227_0 z x := fun x => s237_eq z x
  have ks : ∀ x : Int, some (s237 z x) = k227_0 z x := s237_eq z
  by_cases h7 : (7 : Int) ≤ z
  · by_cases h1 : a.kind = 1
    · by_cases g1 : b.kind = 1
      · simp [h1, g1, h7, s236]
      · by_cases g0 : b.kind = 0
        · simp [h1, g0, h7, s236]
        · simp [h1, g1, g0, h7]
    · by_cases h0 : a.kind = 0
      · by_cases g1 : b.kind = 1
        · simp [h0, g1, h7, s236]
        · by_cases g0 : b.kind = 0
          · simp [h0, g0, h7, s236]
          · simp [h0, g1, g0, h7]
      · simp [h1, h0, h7]
  · have num : ∀ x y : Int, (if x < y then (if y < x then k221_0 z 1 else k221_0 z (-1)) else (if y < x then k221_0 z 1 else k221_0 z 0)) = (if x < y then k227_0 z (-1) else if y < x then k227_0 z 1 else k227_0 z 0) := by
      intro x y
      rw [kc, kc, kc]
      by_cases hx : x < y
      · rw [if_pos hx, if_pos hx, if_neg (by omega)]
      · rw [if_neg hx, if_neg hx]
    have txt : (if (Op.bytesLess a.s b.s) = true then k221_3 z a b (-1) else k221_3 z a b 0) = (if (Op.bytesLess a.s b.s) = true then k227_0 z (-1) else if (a.s == b.s) = true then k227_0 z 0 else k227_0 z 1) := by
      unfold k221_3
      rw [kc, kc, kc]
      by_cases hl : Op.bytesLess a.s b.s = true
      · rw [if_pos hl, if_pos hl, if_pos (by rw [hl]; rfl)]
      · rw [if_neg hl, if_neg hl]
        have : Op.bytesLess a.s b.s = false := by simpa using hl
        rw [this, Bool.false_or]
    by_cases h1 : a.kind = 1
    · by_cases g1 : b.kind = 1
      · simpa [h1, g1, h7, k221_1, s235] using num a.n b.n
      · by_cases g0 : b.kind = 0
        · simpa [h1, g0, h7, k221_1, s235] using num a.n 0
        · simp [h1, g1, g0, h7]
    · by_cases h0 : a.kind = 0
      · by_cases g1 : b.kind = 1
        · simpa [h0, g1, h7, k221_1, s235] using num 0 b.n
        · by_cases g0 : b.kind = 0
          · simpa [h0, g0, h7, k221_1, s235] using num 0 0
          · by_cases g2 : b.kind = 2
            · simpa [h0, g2, h7] using txt
            · simp [h0, g1, g0, g2, h7]
      · by_cases h2 : a.kind = 2
        · by_cases g2 : b.kind = 2
          · simpa [h2, g2, h7] using txt
          · by_cases g0 : b.kind = 0
            · simpa [h2, g0, h7] using txt
            · simp [h2, g2, g0, h7]
        · by_cases h3 : a.kind = 3
          · by_cases g3 : b.kind = 3
            · simp [h3, g3, h7, ks]
            · simp [h3, g3, h7]
          · simp [h1, h0, h2, h3, h7]
end Go.Proofs.Qxb6500272aGreat
