/-
  Plain laws, the parser: tokens and the bytes that the model's reader sees.
-/
import Derived.Test.Qxb6500272aGreatL8
import Derived.Test.Qxb6500272aGreatL1
namespace Go.Proofs.Qxb6500272aGreat
open Go
set_option linter.unusedVariables false
set_option linter.unusedSimpArgs false

def sp (c : Int) : Prop := c = 36 ∨ c = 35 ∨ c = 40 ∨ c = 41 ∨ c = 44 ∨ c = 58 ∨ c = 43 ∨ c = 45 ∨ c = 42 ∨ c = 47 ∨ c = 61 ∨ c = 60 ∨ c = 62
theorem s189_iff (c : Int) : s189 c = true ↔ (48 ≤ c ∧ c ≤ 57) ∨ (65 ≤ c ∧ c ≤ 90) ∨ sp c := by
  by_cases h1 : 48 ≤ c ∧ c ≤ 57
  · refine iff_of_true ?_ (.inl h1)
    unfold s189
    rw [if_pos h1.1, if_pos h1.2]
  by_cases h2 : 65 ≤ c ∧ c ≤ 90
  · refine iff_of_true ?_ (.inr (.inl h2))
    unfold s189
    rw [if_pos (by omega), if_neg (by omega), if_pos h2.1, if_pos h2.2]
  by_cases h3 : sp c
  · refine iff_of_true ?_ (.inr (.inr h3))
    rcases h3 with rfl | rfl | rfl | rfl | rfl | rfl | rfl | rfl | rfl | rfl | rfl | rfl | rfl <;> decide
  · refine iff_of_false ?_ (by rintro (h | h | h); exact h1 h; exact h2 h; exact h3 h)
    unfold sp at h3
    simp only [not_or] at h3
    obtain ⟨a1, a2, a3, a4, a5, a6, a7, a8, a9, a10, a11, a12, a13⟩ := h3
    unfold s189
    by_cases b1 : 48 ≤ c
    · have b2 : ¬ c ≤ 57 := by omega
      by_cases b3 : 65 ≤ c
      · have b4 : ¬ c ≤ 90 := by omega
        simp [b1, b2, b3, b4, a1, a2, a3, a4, a5, a6, a7, a8, a9, a10, a11, a12, a13]
      · simp [b1, b2, b3, a1, a2, a3, a4, a5, a6, a7, a8, a9, a10, a11, a12, a13]
    · have b3 : ¬ 65 ≤ c := by omega
      simp [b1, b3, a1, a2, a3, a4, a5, a6, a7, a8, a9, a10, a11, a12, a13]
def ch (s : List UInt8) (i : Nat) : Int := if skip s i < s.length then bt s (skip s i) else 0
def nx (s : List UInt8) (i : Nat) : Int := nxt s (skip s i)
def opOf (c d : Int) : Int :=
  if c = 43 then 7 else if c = 45 then 8 else if c = 42 then 9 else if c = 47 then 10 else if c = 61 then 1
  else if c = 60 then (if d = 61 then 4 else if d = 62 then 2 else 3) else if c = 62 then (if d = 61 then 6 else 5) else 0
def opLen (c d : Int) : Int := if (c = 60 ∧ (d = 61 ∨ d = 62)) ∨ (c = 62 ∧ d = 61) then 2 else 1
def view (t : TokT) (j c d : Int) : Prop :=
  (t.kind = 6 → t.n = opOf c d ∧ opOf c d ≠ 0) ∧ (opOf c d ≠ 0 → t.kind = 6 ∧ t.end_ = j + opLen c d) ∧
  (∀ k, k = 40 ∨ k = 41 ∨ k = 44 ∨ k = 58 → (t.kind = k ↔ c = k) ∧ (c = k → t.end_ = j + 1)) ∧ t.kind ≠ 0
def view2 (t : TokT) (c : Int) : Prop := (t.kind = 1 ↔ ¬ (c = 35 ∨ c = 40 ∨ c = 41 ∨ c = 44 ∨ c = 58 ∨ c = 43 ∨ c = 45 ∨ c = 42 ∨ c = 47 ∨ c = 61 ∨ c = 60 ∨ c = 62)) ∧ (c ≠ 35 → t.kind ≠ 2 ∧ t.kind ≠ 3) ∧ t.kind ≠ 4 ∧ t.kind ≠ 5
theorem vw {j : Nat} {c d : Int} (k op n e : Int) (h : sgn j c d = ⟨k, j, (j : Int) + e, op, n, dRef⟩) (h1 : opOf c d = if k = 6 then n else 0) (h2 : k = 6 → n ≠ 0) (h3 : k = 6 → opLen c d = e) (h4 : ∀ q, q = 40 ∨ q = 41 ∨ q = 44 ∨ q = 58 → (k = q ↔ c = q) ∧ (c = q → e = 1)) (h5 : k ≠ 0)
    (h6 : k = 1 ↔ ¬ (c = 35 ∨ c = 40 ∨ c = 41 ∨ c = 44 ∨ c = 58 ∨ c = 43 ∨ c = 45 ∨ c = 42 ∨ c = 47 ∨ c = 61 ∨ c = 60 ∨ c = 62)) (h7 : c ≠ 35 → k ≠ 2 ∧ k ≠ 3) (h8 : k ≠ 4 ∧ k ≠ 5) : view (sgn j c d) j c d ∧ view2 (sgn j c d) c := by
  rw [h]
  refine ⟨⟨fun hk => ?_, fun ho => ?_, fun q hq => ⟨(h4 q hq).1, fun h => by show (j : Int) + e = _; rw [(h4 q hq).2 h]⟩, h5⟩, h6, h7, h8⟩
  · have hk : k = 6 := hk
    rw [h1, if_pos hk]
    exact ⟨rfl, h2 hk⟩
  · by_cases hk : k = 6
    · exact ⟨hk, by show (j : Int) + e = _; rw [h3 hk]⟩
    · rw [h1, if_neg hk] at ho
      exact absurd rfl ho
theorem sgn_view (j : Nat) (c d : Int) : view (sgn j c d) j c d ∧ view2 (sgn j c d) c := by
  have hc : c = 40 ∨ c = 41 ∨ c = 44 ∨ c = 58 ∨ c = 43 ∨ c = 45 ∨ c = 42 ∨ c = 47 ∨ c = 61 ∨ c = 60 ∨ c = 62 ∨ c = 35 ∨ (c ≠ 40 ∧ c ≠ 41 ∧ c ≠ 44 ∧ c ≠ 58 ∧ c ≠ 43 ∧ c ≠ 45 ∧ c ≠ 42 ∧ c ≠ 47 ∧ c ≠ 61 ∧ c ≠ 60 ∧ c ≠ 62 ∧ c ≠ 35) := by omega
  rcases hc with rfl | rfl | rfl | rfl | rfl | rfl | rfl | rfl | rfl | rfl | rfl | rfl | hc
  · exact vw 40 0 0 1 rfl rfl (by omega) (by omega) (by omega) (by omega) (by omega) (by omega) (by omega)
  · exact vw 41 0 0 1 rfl rfl (by omega) (by omega) (by omega) (by omega) (by omega) (by omega) (by omega)
  · exact vw 44 0 0 1 rfl rfl (by omega) (by omega) (by omega) (by omega) (by omega) (by omega) (by omega)
  · exact vw 58 0 0 1 rfl rfl (by omega) (by omega) (by omega) (by omega) (by omega) (by omega) (by omega)
  · exact vw 6 0 7 1 rfl rfl (by omega) (fun _ => if_neg (by omega)) (by omega) (by omega) (by omega) (by omega) (by omega)
  · exact vw 6 0 8 1 rfl rfl (by omega) (fun _ => if_neg (by omega)) (by omega) (by omega) (by omega) (by omega) (by omega)
  · exact vw 6 0 9 1 rfl rfl (by omega) (fun _ => if_neg (by omega)) (by omega) (by omega) (by omega) (by omega) (by omega)
  · exact vw 6 0 10 1 rfl rfl (by omega) (fun _ => if_neg (by omega)) (by omega) (by omega) (by omega) (by omega) (by omega)
  · exact vw 6 0 1 1 rfl rfl (by omega) (fun _ => if_neg (by omega)) (by omega) (by omega) (by omega) (by omega) (by omega)
  · have e : sgn j 60 d = if d = 61 then ⟨6, j, (j : Int) + 2, 0, 4, dRef⟩ else if d = 62 then ⟨6, j, (j : Int) + 2, 0, 2, dRef⟩ else ⟨6, j, (j : Int) + 1, 0, 3, dRef⟩ := rfl
    have o : opOf 60 d = if d = 61 then 4 else if d = 62 then 2 else 3 := rfl
    by_cases h1 : d = 61
    · exact vw 6 0 4 2 (e.trans (if_pos h1)) (o.trans (if_pos h1)) (by omega) (fun _ => if_pos (by omega)) (by omega) (by omega) (by omega) (by omega) (by omega)
    · by_cases h2 : d = 62
      · exact vw 6 0 2 2 (e.trans ((if_neg h1).trans (if_pos h2))) (o.trans ((if_neg h1).trans (if_pos h2))) (by omega) (fun _ => if_pos (by omega)) (by omega) (by omega) (by omega) (by omega) (by omega)
      · exact vw 6 0 3 1 (e.trans ((if_neg h1).trans (if_neg h2))) (o.trans ((if_neg h1).trans (if_neg h2))) (by omega) (fun _ => if_neg (by omega)) (by omega) (by omega) (by omega) (by omega) (by omega)
  · have e : sgn j 62 d = if d = 61 then ⟨6, j, (j : Int) + 2, 0, 6, dRef⟩ else ⟨6, j, (j : Int) + 1, 0, 5, dRef⟩ := rfl
    have o : opOf 62 d = if d = 61 then 6 else 5 := rfl
    by_cases h1 : d = 61
    · exact vw 6 0 6 2 (e.trans (if_pos h1)) (o.trans (if_pos h1)) (by omega) (fun _ => if_pos (by omega)) (by omega) (by omega) (by omega) (by omega) (by omega)
    · exact vw 6 0 5 1 (e.trans (if_neg h1)) (o.trans (if_neg h1)) (by omega) (fun _ => if_neg (by omega)) (by omega) (by omega) (by omega) (by omega) (by omega)
  · have e : sgn j 35 d = if d = 35 then ⟨2, j, (j : Int) + 2, 5, 0, dRef⟩ else ⟨3, j, (j : Int) + 1, 0, 2, dRef⟩ := rfl
    by_cases h1 : d = 35
    · exact vw 2 5 0 2 (e.trans (if_pos h1)) rfl (by omega) (by omega) (by omega) (by omega) (by omega) (by omega) (by omega)
    · exact vw 3 0 2 1 (e.trans (if_neg h1)) rfl (by omega) (by omega) (by omega) (by omega) (by omega) (by omega) (by omega)
  · obtain ⟨c1, c2, c3, c4, c5, c6, c7, c8, c9, c10, c11, c12⟩ := hc
    refine vw 1 0 0 1 ?_ ?_ (by omega) (by omega) (by omega) (by omega) (by omega) (by omega) (by omega)
    · unfold sgn
      simp [c1, c2, c3, c4, c5, c6, c7, c8, c9, c10, c11, c12]
    · unfold opOf
      simp [c1, c2, c3, c4, c5, c6, c7, c8, c9, c10, c11, c12]
/-- The token at hand, by its first byte. -/
theorem tok_cases (s : List UInt8) (i : Nat) :
    (¬ skip s i < s.length ∧ ch s i = 0 ∧ tok s i = ⟨0, s.length, s.length, 0, 0, dRef⟩) ∨
    (skip s i < s.length ∧ ch s i = bt s (skip s i) ∧ ((s163 (ch s i) = true ∧ tok s i = numTok s (skip s i)) ∨ (¬ s163 (ch s i) = true ∧ s165 (ch s i) = true ∧ tok s i = wordTok s (skip s i)) ∨ (¬ s163 (ch s i) = true ∧ ¬ s165 (ch s i) = true ∧ tok s i = sgn (skip s i) (ch s i) (nx s i)))) := by
  unfold ch nx tok rawTok
  by_cases h : skip s i < s.length
  · right
    simp only [if_pos h]
    refine ⟨h, trivial, ?_⟩
    by_cases h1 : s163 (bt s (skip s i)) = true
    · exact .inl ⟨h1, if_pos h1⟩
    · by_cases h2 : s165 (bt s (skip s i)) = true
      · exact .inr (.inl ⟨h1, h2, by rw [if_neg h1, if_pos h2]⟩)
      · exact .inr (.inr ⟨h1, h2, by rw [if_neg h1, if_neg h2]⟩)
  · left
    simp only [if_neg h]
    exact ⟨h, trivial, trivial⟩
theorem numTok_kind (s : List UInt8) (j : Nat) : (numTok s j).kind = 2 ∨ (numTok s j).kind = 3 := by
  unfold numTok
  split
  · exact .inr rfl
  · exact .inl rfl
theorem wordTok_kind (s : List UInt8) (j : Nat) : (wordTok s j).kind = 2 ∨ (wordTok s j).kind = 3 ∨ (wordTok s j).kind = 4 ∨ (wordTok s j).kind = 5 := by
  unfold wordTok
  simp only
  cases refOf (wordAt s j (wEnd s j)) with
  | some r => exact .inr (.inr (.inl rfl))
  | none =>
    simp only
    split
    · exact .inl rfl
    split
    · exact .inl rfl
    split
    · exact .inr (.inl rfl)
    · exact .inr (.inr (.inr rfl))
theorem opOf_no {c d : Int} (h : ¬ (c = 43 ∨ c = 45 ∨ c = 42 ∨ c = 47 ∨ c = 61 ∨ c = 60 ∨ c = 62)) : opOf c d = 0 := by
  unfold opOf
  rw [if_neg (by omega), if_neg (by omega), if_neg (by omega), if_neg (by omega), if_neg (by omega), if_neg (by omega), if_neg (by omega)]
theorem tok_view (s : List UInt8) (i : Nat) : ((tok s i).kind = 6 → (tok s i).n = opOf (ch s i) (nx s i) ∧ opOf (ch s i) (nx s i) ≠ 0) ∧ (opOf (ch s i) (nx s i) ≠ 0 → (tok s i).kind = 6 ∧ (tok s i).end_ = (skip s i : Nat) + opLen (ch s i) (nx s i)) ∧
    (∀ k, k = 40 ∨ k = 41 ∨ k = 44 ∨ k = 58 → ((tok s i).kind = k ↔ ch s i = k) ∧ (ch s i = k → (tok s i).end_ = (skip s i : Nat) + 1)) ∧
    ((tok s i).kind = 1 ↔ skip s i < s.length ∧ ¬ s189 (ch s i) = true) ∧ ((tok s i).kind = 0 ↔ ¬ skip s i < s.length) := by
  have alnum : ∀ (t : TokT), (t.kind = 2 ∨ t.kind = 3 ∨ t.kind = 4 ∨ t.kind = 5) → ((48 ≤ ch s i ∧ ch s i ≤ 57) ∨ (65 ≤ ch s i ∧ ch s i ≤ 90) ∨ ch s i = 36) → skip s i < s.length → tok s i = t → ((tok s i).kind = 6 → (tok s i).n = opOf (ch s i) (nx s i) ∧ opOf (ch s i) (nx s i) ≠ 0) ∧ (opOf (ch s i) (nx s i) ≠ 0 → (tok s i).kind = 6 ∧ (tok s i).end_ = (skip s i : Nat) + opLen (ch s i) (nx s i)) ∧
    (∀ k, k = 40 ∨ k = 41 ∨ k = 44 ∨ k = 58 → ((tok s i).kind = k ↔ ch s i = k) ∧ (ch s i = k → (tok s i).end_ = (skip s i : Nat) + 1)) ∧
    ((tok s i).kind = 1 ↔ skip s i < s.length ∧ ¬ s189 (ch s i) = true) ∧ ((tok s i).kind = 0 ↔ ¬ skip s i < s.length) := by
    intro t ht hc hl e
    rw [e]
    have h189 : s189 (ch s i) = true := (s189_iff _).2 (by unfold sp; omega)
    refine ⟨by omega, fun h => absurd (opOf_no (by omega)) h, fun k hk => ⟨by omega, by omega⟩, ⟨by omega, fun h => absurd h189 h.2⟩, by omega⟩
  rcases tok_cases s i with ⟨h1, h2, h3⟩ | ⟨h1, h2, h3 | h3 | h3⟩
  · rw [h3, h2]
    refine ⟨by simp, fun h => absurd (opOf_no (by omega)) h, fun k hk => ⟨?_, by omega⟩, ?_, ?_⟩
    · show (0 : Int) = k ↔ 0 = k
      exact Iff.rfl
    · exact ⟨by simp, fun h => absurd h.1 h1⟩
    · exact ⟨fun _ => h1, fun _ => rfl⟩
  · exact alnum _ (by rcases numTok_kind s (skip s i) with h | h <;> omega) (by have := (s163_iff _).1 h3.1; omega) h1 h3.2
  · exact alnum _ (by rcases wordTok_kind s (skip s i) with h | h | h | h <;> omega) (by have := (s165_iff _).1 h3.2.1; omega) h1 h3.2.2
  · obtain ⟨h3, h4, h5⟩ := h3
    rw [h5]
    obtain ⟨⟨v1, v2, v3, v4⟩, v5, v6, v7⟩ := sgn_view (skip s i) (ch s i) (nx s i)
    have n3 : ¬ (48 ≤ ch s i ∧ ch s i ≤ 57) := fun h => h3 ((s163_iff _).2 h)
    have n4 : ¬ ((65 ≤ ch s i ∧ ch s i ≤ 90) ∨ (48 ≤ ch s i ∧ ch s i ≤ 57) ∨ ch s i = 36) := fun h => h4 ((s165_iff _).2 h)
    refine ⟨v1, v2, v3, ?_, ⟨fun h => absurd h v4, fun h => absurd h1 h⟩⟩
    rw [v5, s189_iff]
    unfold sp
    omega
end Go.Proofs.Qxb6500272aGreat
