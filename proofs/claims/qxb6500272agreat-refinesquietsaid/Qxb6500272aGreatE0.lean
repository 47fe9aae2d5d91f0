/-
  Plain laws, edits: what becomes of a node; a tree of turned nodes.
-/
import Derived.Test.Qxb6500272aGreatK2
import Derived.Test.Qxb6500272aGreatP5
namespace Go.Proofs.Qxb6500272aGreat
open Go
set_option linter.unusedVariables false
set_option linter.unusedSimpArgs false
/-! ### Lines -/
def lowP (ins : Bool) (a x : Int) : Int := if ins = true then (if a ≤ x then x + 1 else x) else (if a < x then x - 1 else x)
def highP (ins : Bool) (a x : Int) : Int := if ins = true then (if a ≤ x then x + 1 else x) else (if a ≤ x then x - 1 else x)
def cutP (n x : Int) : Int := if n ≤ x then n - 1 else x
structure Ed (k a : Int) (ins rows : Bool) (n : Int) : Prop where
  kind : (k = 1 ∧ ins = true ∧ rows = true ∧ n = 6) ∨ (k = 2 ∧ ins = false ∧ rows = true ∧ n = 6) ∨ (k = 3 ∧ ins = true ∧ rows = false ∧ n = 4) ∨ (k = 4 ∧ ins = false ∧ rows = false ∧ n = 4)
  at_ : 0 ≤ a ∧ a < n
theorem ed_of {k a : Int} (h : s94 k a = true) : ∃ ins rows n, Ed k a ins rows n := by
  unfold s94 at h
  by_cases h1 : k = 1
  · rw [if_pos h1] at h
    split at h
    · exact ⟨true, true, 6, .inl ⟨h1, rfl, rfl, rfl⟩, by have := of_decide_eq_true h; omega⟩
    · cases h
  rw [if_neg h1] at h
  by_cases h2 : k = 2
  · rw [if_pos h2] at h
    split at h
    · exact ⟨false, true, 6, .inr (.inl ⟨h2, rfl, rfl, rfl⟩), by have := of_decide_eq_true h; omega⟩
    · cases h
  rw [if_neg h2] at h
  by_cases h3 : k = 3
  · rw [if_pos h3] at h
    split at h
    · exact ⟨true, false, 4, .inr (.inr (.inl ⟨h3, rfl, rfl, rfl⟩)), by have := of_decide_eq_true h; omega⟩
    · cases h
  rw [if_neg h3] at h
  by_cases h4 : k = 4
  · rw [if_pos h4] at h
    split at h
    · exact ⟨false, false, 4, .inr (.inr (.inr ⟨h4, rfl, rfl, rfl⟩)), by have := of_decide_eq_true h; omega⟩
    · cases h
  rw [if_neg h4] at h
  cases h
section
variable {k a : Int} {ins rows : Bool} {n : Int}
theorem s95_eq (h : Ed k a ins rows n) : s95 k a = ⟨rows, n, a, if ins = true then 1 else -1⟩ := by
  unfold s95 k95_1
  rcases h.kind with ⟨rfl, rfl, rfl, rfl⟩ | ⟨rfl, rfl, rfl, rfl⟩ | ⟨rfl, rfl, rfl, rfl⟩ | ⟨rfl, rfl, rfl, rfl⟩ <;> rfl
theorem Ed.n46 (h : Ed k a ins rows n) : n = 4 ∨ n = 6 := by
  rcases h.kind with ⟨_, _, _, rfl⟩ | ⟨_, _, _, rfl⟩ | ⟨_, _, _, rfl⟩ | ⟨_, _, _, rfl⟩ <;> simp
theorem s179_eq (h : Ed k a ins rows n) {x : Int} (hx : 0 ≤ x ∧ x ≤ 100) : s179 (s95 k a) x = some (lowP ins a x) := by
  rw [s95_eq h]
  unfold s179 lowP
  cases ins
  · simp only [Bool.false_eq_true, if_false]
    rw [if_neg (by decide)]
    split
    · rw [ckF (by constructor <;> omega)]
    · rfl
  · simp only [if_true]
    rw [if_pos (by decide)]
    split
    · rw [ckF (by constructor <;> omega)]
    · rfl
theorem s180_eq (h : Ed k a ins rows n) {x : Int} (hx : 0 ≤ x ∧ x ≤ 100) : s180 (s95 k a) x = some (highP ins a x) := by
  rw [s95_eq h]
  unfold s180 highP
  cases ins
  · simp only [Bool.false_eq_true, if_false]
    split
    · rw [ckF (by constructor <;> omega)]; rfl
    · rfl
  · simp only [if_true]
    split
    · rw [ckF (by constructor <;> omega)]
    · rfl
theorem s141_eq (h : Ed k a ins rows n) {x y : Int} (hx : 0 ≤ x ∧ x ≤ 100) (hy : 0 ≤ y ∧ y ≤ 100) : s141 (s95 k a) x y = some (lowP ins a x, cutP n (highP ins a y), decide (lowP ins a x ≤ cutP n (highP ins a y))) := by
  unfold s141
  have hn := h.n46
  rw [bindT (s179_eq h hx), bindT (s180_eq h hy)]
  have e : (s95 k a).n = n := by rw [s95_eq h]
  rw [e, ckF (by constructor <;> omega)]
  unfold k141_0 cutP
  split <;> rfl
theorem s147_eq (h : Ed k a ins rows n) {x : Int} (hx : 0 ≤ x ∧ x < n) : s147 x n a ins = some (if lowP ins a x ≤ cutP n (highP ins a x) then lowP ins a x else -1) := by
  have hn := h.n46
  have ha := h.at_
  unfold s147 lowP highP cutP
  rw [ckF (by constructor <;> omega), ckF (by constructor <;> omega)]
  cases ins
  · simp only [Bool.false_eq_true, if_false]
    repeat' split
    all_goals first | rfl | (exfalso; omega) | (simp only [Option.some.injEq]; omega)
  · simp only [if_true]
    repeat' split
    all_goals first | rfl | (exfalso; omega) | (simp only [Option.some.injEq]; omega)
theorem s150_eq (h : Ed k a ins rows n) {x y : Int} (hx : 0 ≤ x ∧ x ≤ y ∧ y < n) : s150 x y n a ins = some (if lowP ins a x ≤ cutP n (highP ins a y) then (lowP ins a x, cutP n (highP ins a y)) else (-1, -1)) := by
  have hn := h.n46
  have ha := h.at_
  have c1 : i64ok (n - 1) := by constructor <;> omega
  have c2 : i64ok (y + 1) := by constructor <;> omega
  have c3 : i64ok (y - 1) := by constructor <;> omega
  have c4 : i64ok (x + 1) := by constructor <;> omega
  have c5 : i64ok (x - 1) := by constructor <;> omega
  unfold s150 k150_2 k150_1 k150_4 k150_0 lowP highP cutP
  simp only [ckF c1, ckF c2, ckF c3, ckF c4, ckF c5]
  cases ins
  · simp only [Bool.false_eq_true, if_false]
    repeat' split
    all_goals first | rfl | (exfalso; omega) | (simp only [Option.some.injEq, Prod.mk.injEq]; omega)
  · simp only [if_true]
    repeat' split
    all_goals first | rfl | (exfalso; omega) | (simp only [Option.some.injEq, Prod.mk.injEq]; omega)
end
end Go.Proofs.Qxb6500272aGreat
