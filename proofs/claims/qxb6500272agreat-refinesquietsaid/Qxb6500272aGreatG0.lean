/-
  Plain laws, the graph: sets of cells as lists; the lowest bit.
-/
import Derived.Test.Qxb6500272aGreatY0
namespace Go.Proofs.Qxb6500272aGreat
open Go
set_option linter.unusedVariables false
set_option linter.unusedSimpArgs false
/-! ### The lowest bit -/
def Low (x : BitVec 32) (r : Nat) : Prop := x.getLsbD r = true ∧ ∀ j, j < r → x.getLsbD j = false
theorem first_step (B : Nat) (hB : B ≤ 1000) {f : BitVec 32 → Int → Option Int} {k : Nat} {m : BitVec 32} (hk : k ≤ 16) (hm : ∀ j, j < 32 → m.getLsbD j = decide (j < k))
    (hf : ∀ x (n : Nat), n ≤ B + k → (∃ j, j < k ∧ x.getLsbD j = true) → ∃ r, r < k ∧ f x (n : Int) = some ((n + r : Nat) : Int) ∧ Low x r)
    (x : BitVec 32) (n : Nat) (hn : n ≤ B) (h : ∃ j, j < 2 * k ∧ x.getLsbD j = true) :
    ∃ r, r < 2 * k ∧ (if ((x &&& m).toNat : Int) = 0 then ck (i64ok ((n : Int) + (k : Int))) <| f (x >>> k) ((n : Int) + (k : Int)) else f x (n : Int)) = some ((n + r : Nat) : Int) ∧ Low x r := by
  by_cases hz : ((x &&& m).toNat : Int) = 0
  · have hlow : ∀ j, j < k → x.getLsbD j = false := by
      intro j hj
      have := (bv_zero.1 hz) j (by omega)
      rw [BitVec.getLsbD_and, hm j (by omega), decide_eq_true hj, Bool.and_true] at this
      exact this
    obtain ⟨j, hj, hb⟩ := h
    have hjk : k ≤ j := by
      rcases Nat.lt_or_ge j k with h | h
      · rw [hlow j h] at hb; cases hb
      · exact h
    obtain ⟨r, r1, r2, r3, r4⟩ := hf (x >>> k) (n + k) (by omega) ⟨j - k, by omega, by rw [BitVec.getLsbD_ushiftRight, show k + (j - k) = j by omega]; exact hb⟩
    refine ⟨k + r, by omega, ?_, ?_, ?_⟩
    · rw [if_pos hz, ckF (by constructor <;> omega), show (n : Int) + (k : Int) = ((n + k : Nat) : Int) by omega, r2, Nat.add_assoc]
    · rw [BitVec.getLsbD_ushiftRight] at r3; exact r3
    · intro i hi
      rcases Nat.lt_or_ge i k with h | h
      · exact hlow i h
      · have := r4 (i - k) (by omega)
        rw [BitVec.getLsbD_ushiftRight, show k + (i - k) = i by omega] at this
        exact this
  · rw [if_neg hz]
    have hex : ∃ j, j < k ∧ x.getLsbD j = true := by
      apply Classical.byContradiction
      intro hn
      apply hz
      rw [bv_zero]
      intro j hj
      rw [BitVec.getLsbD_and, hm j hj]
      by_cases hjk : j < k
      · cases hx : x.getLsbD j with
        | false => rfl
        | true => exact absurd ⟨j, hjk, hx⟩ hn
      · simp [hjk]
    obtain ⟨r, r1, r2, r3⟩ := hf x n (by omega) hex
    exact ⟨r, by omega, r2, r3⟩
theorem m1 : ∀ j, j < 32 → (1 : BitVec 32).getLsbD j = decide (j < 1) := by decide
theorem m3 : ∀ j, j < 32 → (3 : BitVec 32).getLsbD j = decide (j < 2) := by decide
theorem m15 : ∀ j, j < 32 → (15 : BitVec 32).getLsbD j = decide (j < 4) := by decide
theorem m255 : ∀ j, j < 32 → (255 : BitVec 32).getLsbD j = decide (j < 8) := by decide
theorem m65535 : ∀ j, j < 32 → (65535 : BitVec 32).getLsbD j = decide (j < 16) := by decide
theorem mall : ∀ j, j < 32 → (16777215 : BitVec 32).getLsbD j = decide (j < 24) := by decide
theorem k129_0_ok (x : BitVec 32) (n : Nat) (hn : n ≤ 90) (h : ∃ j, j < 2 ∧ x.getLsbD j = true) : ∃ r, r < 2 ∧ k129_0 x (n : Int) = some ((n + r : Nat) : Int) ∧ Low x r := by
  have hf : ∀ x (n : Nat), n ≤ 90 + 1 → (∃ j, j < 1 ∧ x.getLsbD j = true) → ∃ r, r < 1 ∧ (fun (_ : BitVec 32) (m : Int) => some m) x (n : Int) = some ((n + r : Nat) : Int) ∧ Low x r := by
    intro x n _ ⟨j, hj, hb⟩
    have : j = 0 := by omega
    subst this
    exact ⟨0, by omega, rfl, hb, fun i hi => by omega⟩
  exact first_step 90 (by omega) (k := 1) (m := 1) (by omega) m1 hf x n hn h
theorem k129_1_ok (x : BitVec 32) (n : Nat) (hn : n ≤ 88) (h : ∃ j, j < 4 ∧ x.getLsbD j = true) : ∃ r, r < 4 ∧ k129_1 x (n : Int) = some ((n + r : Nat) : Int) ∧ Low x r :=
  first_step 88 (by omega) (k := 2) (m := 3) (by omega) m3 k129_0_ok x n hn h
theorem k129_2_ok (x : BitVec 32) (n : Nat) (hn : n ≤ 84) (h : ∃ j, j < 8 ∧ x.getLsbD j = true) : ∃ r, r < 8 ∧ k129_2 x (n : Int) = some ((n + r : Nat) : Int) ∧ Low x r :=
  first_step 84 (by omega) (k := 4) (m := 15) (by omega) m15 k129_1_ok x n hn h
theorem k129_3_ok (x : BitVec 32) (n : Nat) (hn : n ≤ 76) (h : ∃ j, j < 16 ∧ x.getLsbD j = true) : ∃ r, r < 16 ∧ k129_3 x (n : Int) = some ((n + r : Nat) : Int) ∧ Low x r :=
  first_step 76 (by omega) (k := 8) (m := 255) (by omega) m255 k129_2_ok x n hn h
theorem s129_low {x : BitVec 32} (h : ∃ j, x.getLsbD j = true) : ∃ r : Nat, s129 x = some (r : Int) ∧ Low x r := by
  have h' : ∃ j, j < 32 ∧ x.getLsbD j = true := by
    obtain ⟨j, hb⟩ := h
    refine ⟨j, ?_, hb⟩
    rcases Nat.lt_or_ge j 32 with h | h
    · exact h
    · rw [BitVec.getLsbD_of_ge x j h] at hb; cases hb
  have := first_step 60 (by omega) (k := 16) (m := 65535) (by omega) m65535 (fun x n hn h => k129_3_ok x n hn h) x 0 (by omega) h'
  obtain ⟨r, _, r2, r3⟩ := this
  rw [Nat.zero_add] at r2
  exact ⟨r, r2, r3⟩
theorem low_and {x : BitVec 32} {r : Nat} (h : Low x r) (j : Nat) : (x &&& (x - 1)).getLsbD j = (x.getLsbD j && decide (j ≠ r)) := by
  obtain ⟨h1, h2⟩ := h
  have hr : r < 32 := by
    rcases Nat.lt_or_ge r 32 with h | h
    · exact h
    · rw [BitVec.getLsbD_of_ge x r h] at h1; cases h1
  -- x = high + 2 ^ r, and x - 1 keeps all above r
  have hx : ∀ j, r < j → (x - 1).getLsbD j = x.getLsbD j := by
    intro j hj
    have hmod : x.toNat % 2 ^ (r + 1) = 2 ^ r := by
      apply Nat.eq_of_testBit_eq
      intro i
      rw [Nat.testBit_mod_two_pow, Nat.testBit_two_pow]
      by_cases hi : i = r
      · subst hi
        have : x.toNat.testBit i = true := h1
        simp [this]
      · by_cases hlt : i < r
        · have : x.toNat.testBit i = false := h2 i hlt
          simp [this]; omega
        · have : ¬ i < r + 1 := by omega
          simp [this]; omega
    have hdiv : (x - 1).toNat / 2 ^ (r + 1) = x.toNat / 2 ^ (r + 1) := by
      have hpos : 0 < 2 ^ r := Nat.pos_of_ne_zero (by simp)
      have hxl := x.isLt
      have h1 : (x - 1).toNat = x.toNat - 1 := by
        have : 1 ≤ x.toNat := by
          have := Nat.mod_le x.toNat (2 ^ (r + 1))
          omega
        rw [BitVec.toNat_sub]
        simp
        omega
      rw [h1]
      have e := Nat.div_add_mod x.toNat (2 ^ (r + 1))
      rw [hmod] at e
      have hp : 2 ^ (r + 1) = 2 * 2 ^ r := by rw [Nat.pow_succ, Nat.mul_comm]
      have : x.toNat - 1 = 2 ^ (r + 1) * (x.toNat / 2 ^ (r + 1)) + (2 ^ r - 1) := by omega
      rw [this, Nat.mul_add_div (by omega), Nat.div_eq_of_lt (show 2 ^ r - 1 < 2 ^ (r + 1) by omega), Nat.add_zero]
    have a : (x - 1).toNat.testBit j = ((x - 1).toNat / 2 ^ (r + 1)).testBit (j - (r + 1)) := by
      rw [Nat.testBit_div_two_pow]; congr 1; omega
    have b : x.toNat.testBit j = (x.toNat / 2 ^ (r + 1)).testBit (j - (r + 1)) := by
      rw [Nat.testBit_div_two_pow]; congr 1; omega
    show (x - 1).toNat.testBit j = x.toNat.testBit j
    rw [a, b, hdiv]
  rw [BitVec.getLsbD_and]
  by_cases hj : j < r
  · rw [h2 j hj]; simp
  · by_cases hjr : j = r
    · subst hjr
      have : (x - 1).getLsbD j = false := by
        show (x - 1).toNat.testBit j = false
        have hxl := x.isLt
        have hmod : x.toNat % 2 ^ (j + 1) = 2 ^ j := by
          apply Nat.eq_of_testBit_eq
          intro i
          rw [Nat.testBit_mod_two_pow, Nat.testBit_two_pow]
          by_cases hi : i = j
          · subst hi
            have : x.toNat.testBit i = true := h1
            simp [this]
          · by_cases hlt : i < j
            · have : x.toNat.testBit i = false := h2 i hlt
              simp [this]; omega
            · have : ¬ i < j + 1 := by omega
              simp [this]; omega
        have hpos : 0 < 2 ^ j := Nat.pos_of_ne_zero (by simp)
        have hp : 2 ^ (j + 1) = 2 * 2 ^ j := by rw [Nat.pow_succ, Nat.mul_comm]
        have e := Nat.div_add_mod x.toNat (2 ^ (j + 1))
        rw [hmod] at e
        have h1' : (x - 1).toNat = x.toNat - 1 := by
          rw [BitVec.toNat_sub]
          simp
          omega
        have : x.toNat - 1 = (2 ^ j - 1) + 2 ^ (j + 1) * (x.toNat / 2 ^ (j + 1)) := by omega
        have hm : (x.toNat - 1) % 2 ^ (j + 1) = 2 ^ j - 1 := by
          rw [this, Nat.add_mul_mod_self_left, Nat.mod_eq_of_lt (by omega)]
        rw [h1']
        have q := Nat.testBit_mod_two_pow (x.toNat - 1) (j + 1) j
        rw [hm] at q
        have z : (2 ^ j - 1).testBit j = false := Nat.testBit_lt_two_pow (by omega)
        rw [z] at q
        simpa using q.symm
      rw [this]; simp
    · rw [hx j (by omega)]
      simp [hjr]
/-! ### A set's cells, by rising index -/
def els (s : BitVec 32) : List Nat := (List.range 24).filter fun j => s.getLsbD j
theorem mem_els {s : BitVec 32} {j : Nat} : j ∈ els s ↔ j < 24 ∧ s.getLsbD j = true := by
  unfold els
  rw [List.mem_filter, List.mem_range]
theorem els_len (s : BitVec 32) : (els s).length ≤ 24 := by
  unfold els
  have := List.length_filter_le (fun j => s.getLsbD j) (List.range 24)
  simpa using this
theorem els_nil {s : BitVec 32} (h : In24 s) (h0 : (s.toNat : Int) = 0) : els s = [] := by
  unfold els
  rw [List.filter_eq_nil_iff]
  intro j hj
  rw [bv_zero.1 h0 j (by have := List.mem_range.1 hj; omega)]
  decide
theorem els_cons {s : BitVec 32} (h : In24 s) (h0 : ¬ (s.toNat : Int) = 0) : ∃ d : Nat, d < 24 ∧ s129 s = some (d : Int) ∧ s.getLsbD d = true ∧ els s = d :: els (s &&& (s - 1)) ∧ In24 (s &&& (s - 1)) ∧ (∀ j, (s &&& (s - 1)).getLsbD j = (s.getLsbD j && decide (j ≠ d))) := by
  have hex : ∃ j, s.getLsbD j = true := by
    apply Classical.byContradiction
    intro hn
    apply h0
    rw [bv_zero]
    intro j _
    cases hx : s.getLsbD j with
    | false => rfl
    | true => exact absurd ⟨j, hx⟩ hn
  obtain ⟨d, e1, hl⟩ := s129_low hex
  have hd : d < 24 := by
    rcases Nat.lt_or_ge d 24 with h' | h'
    · exact h'
    · have := h d h'; rw [hl.1] at this; cases this
  have ha := low_and hl
  refine ⟨d, hd, e1, hl.1, ?_, ?_, ha⟩
  · unfold els
    have e : List.range 24 = List.range d ++ (d :: List.range' (d + 1) (23 - d)) := by
      rw [List.range_eq_range', List.range_eq_range']
      have : (24 : Nat) = d + ((23 - d) + 1) := by omega
      rw [this, ← List.range'_append_1, List.range'_succ]
      simp
    rw [e, List.filter_append, List.filter_append]
    have z1 : (List.range d).filter (fun j => s.getLsbD j) = [] := by
      rw [List.filter_eq_nil_iff]
      intro j hj
      rw [hl.2 j (List.mem_range.1 hj)]; decide
    have z2 : (List.range d).filter (fun j => (s &&& (s - 1)).getLsbD j) = [] := by
      rw [List.filter_eq_nil_iff]
      intro j hj
      rw [ha, hl.2 j (List.mem_range.1 hj)]; simp
    rw [z1, z2, List.nil_append, List.nil_append, List.filter_cons_of_pos (by simpa using hl.1), List.filter_cons_of_neg (by rw [ha]; simp)]
    congr 1
    apply List.filter_congr
    intro j hj
    rw [List.mem_range'_1] at hj
    rw [ha]
    have : j ≠ d := by omega
    simp [this]
  · intro j hj
    rw [ha, h j hj]; rfl
theorem els_nodup (s : BitVec 32) : (els s).Nodup := List.Pairwise.filter _ List.nodup_range
theorem els_sorted (s : BitVec 32) : (els s).Pairwise (· < ·) := List.Pairwise.filter _ List.pairwise_lt_range
end Go.Proofs.Qxb6500272aGreat
