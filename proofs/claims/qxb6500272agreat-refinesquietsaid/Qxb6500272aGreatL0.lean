/-
  Plain laws, the parser: bytes, blanks, numbers, words, tokens.
-/
import Derived.Test.Qxb6500272aGreatS
namespace Go.Proofs.Qxb6500272aGreat
open Go
set_option linter.unusedVariables false
set_option linter.unusedSimpArgs false

theorem ckF {α : Type} {p : Prop} [Decidable p] {k : Option α} (h : p) : ck p k = k := if_pos h
theorem getD_get' {α : Type} {l : List α} {i : Nat} {d : α} (h : i < l.length) : l[i]? = some (l.getD i d) := by
  rw [List.getD_eq_getElem?_getD, List.getElem?_eq_getElem h]; rfl
/-- Byte i of s. -/
def bt (s : List UInt8) (i : Nat) : Int := ((List.getD s i 0).toNat : Int)
theorem bt_bd (s : List UInt8) (i : Nat) : 0 ≤ bt s i ∧ bt s i ≤ 255 := by
  unfold bt
  have := (List.getD s i 0).toNat_lt
  omega
theorem bt_eq (s : List UInt8) (i : Nat) : ((List.getD s (Int.toNat (i : Int)) 0).toNat : Int) = bt s i := by rw [Int.toNat_natCast]; rfl
/-- Induction along a run. -/
theorem run_ind {n : Nat} {c : Nat → Prop} {motive : Nat → Prop} (hc : ∀ i, c i → i < n) (case1 : ∀ i, c i → motive (i + 1) → motive i) (case2 : ∀ i, ¬ c i → motive i) (i : Nat) : motive i := by
  have : ∀ m i, n - i ≤ m → motive i := by
    intro m
    induction m with
    | zero => intro i hi; exact case2 i (fun h => by have := hc i h; omega)
    | succ m ih =>
      intro i hi
      by_cases h : c i
      · have := hc i h
        exact case1 i h (ih _ (by omega))
      · exact case2 i h
  exact this _ i (Nat.le_refl _)
def skipF (s : List UInt8) : Nat → Nat → Nat
  | 0, i => i
  | m + 1, i => if i < s.length ∧ bt s i = 32 then skipF s m (i + 1) else i
def skip (s : List UInt8) (i : Nat) : Nat := skipF s (s.length - i) i
theorem skip_eq (s : List UInt8) (i : Nat) : skip s i = if h : i < s.length ∧ bt s i = 32 then skip s (i + 1) else i := by
  unfold skip
  by_cases h : i < s.length ∧ bt s i = 32
  · rw [dif_pos h, show s.length - i = (s.length - (i + 1)) + 1 by omega]
    exact if_pos h
  · rw [dif_neg h]
    cases s.length - i with
    | zero => rfl
    | succ m => exact if_neg h
theorem skip_ind (s : List UInt8) {motive : Nat → Prop} (case1 : ∀ i, (i < s.length ∧ bt s i = 32) → motive (i + 1) → motive i) (case2 : ∀ i, ¬ (i < s.length ∧ bt s i = 32) → motive i) (i : Nat) : motive i :=
  run_ind (n := s.length) (fun _ h => h.1) case1 case2 i
theorem skip_le (s : List UInt8) (i : Nat) : i ≤ skip s i := by
  induction i using skip_ind s with
  | case1 i h ih => rw [skip_eq, dif_pos h]; omega
  | case2 i h => rw [skip_eq, dif_neg h]; exact Nat.le_refl _
theorem skip_len (s : List UInt8) (i : Nat) (h : i ≤ s.length) : skip s i ≤ s.length := by
  induction i using skip_ind s with
  | case1 i hc ih => rw [skip_eq, dif_pos hc]; exact ih (by omega)
  | case2 i hc => rw [skip_eq, dif_neg hc]; exact h
theorem skip_stop (s : List UInt8) (i : Nat) : ¬ (skip s i < s.length ∧ bt s (skip s i) = 32) := by
  induction i using skip_ind s with
  | case1 i h ih => rw [skip_eq, dif_pos h]; exact ih
  | case2 i h => rw [skip_eq, dif_neg h]; exact h
theorem skip_self {s : List UInt8} {i : Nat} (h : ¬ (i < s.length ∧ bt s i = 32)) : skip s i = i := by rw [skip_eq, dif_neg h]
theorem skip_skip (s : List UInt8) (i : Nat) : skip s (skip s i) = skip s i := skip_self (skip_stop s i)

/-- The run of digits from i on (the number began at j): its end, its value (of nine digits). -/
def digF (s : List UInt8) (j : Nat) : Nat → Nat → Int → Nat × Int
  | 0, i, v => (i, v)
  | m + 1, i, v => if i < s.length ∧ s163 (bt s i) = true then digF s j m (i + 1) (if (i : Int) - j < 9 then v * 10 + (bt s i - 48) else v) else (i, v)
def digRun (s : List UInt8) (j i : Nat) (v : Int) : Nat × Int := digF s j (s.length - i) i v
theorem digRun_eq (s : List UInt8) (j i : Nat) (v : Int) : digRun s j i v =
    if h : i < s.length ∧ s163 (bt s i) = true then digRun s j (i + 1) (if (i : Int) - j < 9 then v * 10 + (bt s i - 48) else v) else (i, v) := by
  unfold digRun
  by_cases h : i < s.length ∧ s163 (bt s i) = true
  · rw [dif_pos h, show s.length - i = (s.length - (i + 1)) + 1 by omega]
    exact if_pos h
  · rw [dif_neg h]
    cases s.length - i with
    | zero => rfl
    | succ m => exact if_neg h
theorem digRun_ind (s : List UInt8) (j : Nat) {motive : Nat → Int → Prop} (case1 : ∀ i v, (i < s.length ∧ s163 (bt s i) = true) → motive (i + 1) (if (i : Int) - j < 9 then v * 10 + (bt s i - 48) else v) → motive i v)
    (case2 : ∀ i v, ¬ (i < s.length ∧ s163 (bt s i) = true) → motive i v) (i : Nat) (v : Int) : motive i v :=
  run_ind (n := s.length) (c := fun i => i < s.length ∧ s163 (bt s i) = true) (motive := fun i => ∀ v, motive i v) (fun _ h => h.1) (fun i h ih v => case1 i v h (ih _)) (fun i h v => case2 i v h) i v
theorem s163_iff (c : Int) : s163 c = true ↔ 48 ≤ c ∧ c ≤ 57 := by
  unfold s163
  split <;> simp <;> omega
theorem s165_iff (c : Int) : s165 c = true ↔ (65 ≤ c ∧ c ≤ 90) ∨ (48 ≤ c ∧ c ≤ 57) ∨ c = 36 := by
  unfold s165
  repeat' split
  all_goals simp
  all_goals omega
theorem digRun_le (s : List UInt8) (j i : Nat) (v : Int) : i ≤ (digRun s j i v).1 := by
  induction i, v using digRun_ind s j with
  | case1 i v h ih => rw [digRun_eq, dif_pos h]; exact Nat.le_trans (Nat.le_succ _) ih
  | case2 i v h => rw [digRun_eq, dif_neg h]; exact Nat.le_refl _
theorem digRun_len (s : List UInt8) (j i : Nat) (v : Int) (hi : i ≤ s.length) : (digRun s j i v).1 ≤ s.length := by
  induction i, v using digRun_ind s j with
  | case1 i v hc ih => rw [digRun_eq, dif_pos hc]; exact ih (by omega)
  | case2 i v hc => rw [digRun_eq, dif_neg hc]; exact hi
/-- v has at most k digits (k ≤ 9). -/
def Dg (k : Int) (v : Int) : Prop := 0 ≤ v ∧ v ≤ 999999999 ∧ (k ≤ 0 → v ≤ 0) ∧ (k ≤ 1 → v ≤ 9) ∧ (k ≤ 2 → v ≤ 99) ∧ (k ≤ 3 → v ≤ 999) ∧ (k ≤ 4 → v ≤ 9999) ∧ (k ≤ 5 → v ≤ 99999) ∧ (k ≤ 6 → v ≤ 999999) ∧ (k ≤ 7 → v ≤ 9999999) ∧ (k ≤ 8 → v ≤ 99999999)
theorem Dg.step {k v d : Int} (h : Dg k v) (h0 : 0 ≤ k) (hk : k < 9) (hd : 0 ≤ d ∧ d ≤ 9) : Dg (k + 1) (v * 10 + d) := by
  unfold Dg at *
  omega
theorem Dg.more {k v : Int} (h : Dg k v) (hk : 9 ≤ k) : Dg (k + 1) v := by
  unfold Dg at *
  omega
theorem Dg.any {k v : Int} (h : Dg k v) : 0 ≤ v ∧ v ≤ 999999999 := ⟨h.1, h.2.1⟩
theorem digRun_dg (s : List UInt8) (j i : Nat) (v : Int) (hj : j ≤ i) (h : Dg ((i : Int) - j) v) : Dg (((digRun s j i v).1 : Int) - j) (digRun s j i v).2 := by
  induction i, v using digRun_ind s j with
  | case1 i v hc ih =>
    rw [digRun_eq, dif_pos hc]
    refine ih (by omega) ?_
    have hd := (s163_iff _).1 hc.2
    split
    · rename_i h9
      have := h.step (by omega) h9 (d := bt s i - 48) (by omega)
      rw [show ((i + 1 : Nat) : Int) - j = (i : Int) - j + 1 by omega]
      exact this
    · rename_i h9
      have := h.more (by omega)
      rw [show ((i + 1 : Nat) : Int) - j = (i : Int) - j + 1 by omega]
      exact this
  | case2 i v hc => rw [digRun_eq, dif_neg hc]; exact h

/-- The number's token. -/
def numTok (s : List UInt8) (j : Nat) : TokT :=
  if ((digRun s j j 0).1 : Int) - j > 9 then ⟨3, j, (digRun s j j 0).1, 1, 4, dRef⟩ else ⟨2, j, (digRun s j j 0).1, 1, (digRun s j j 0).2, dRef⟩
theorem l164_ok (n : Nat) (s : List UInt8) (j : Nat) (hs : s.length ≤ 1100) : ∀ (m i : Nat) (v : Int), s.length - i < m → j ≤ i → i ≤ s.length → Dg ((i : Int) - j) v →
    l164_2 n s j m ⟨2, j, i, 1, v, dRef⟩ = some (if ((digRun s j i v).1 : Int) - j > 9 then ⟨3, j, (digRun s j i v).1, 1, 4, dRef⟩ else ⟨2, j, (digRun s j i v).1, 1, (digRun s j i v).2, dRef⟩) := by
  intro m
  induction m with
  | zero => intro i v h; omega
  | succ m ih =>
    intro i v hm hj hi hv
    show l164_2_st n s j (l164_2 n s j m) ⟨2, j, i, 1, v, dRef⟩ = _
    unfold l164_2_st
    simp only [bt_eq]
    by_cases h1 : i < s.length
    · rw [if_pos (by omega), ckF (by omega)]
      by_cases h2 : s163 (bt s i) = true
      · have hd := (s163_iff _).1 h2
        have hb := hv.any
        rw [if_pos h2, ckF (by constructor <;> omega)]
        rw [digRun_eq, dif_pos ⟨h1, h2⟩]
        by_cases h9 : (i : Int) - j < 9
        · rw [if_pos h9, if_pos h9, ckF (by constructor <;> omega), ckF (by omega), ckF (by constructor <;> omega), ckF (by constructor <;> omega)]
          unfold k164_1
          rw [ckF (by constructor <;> simp only <;> omega)]
          have := ih (i + 1) (v * 10 + (bt s i - 48)) (by omega) (by omega) (by omega) (by
            have := hv.step (by omega) h9 (d := bt s i - 48) (by omega)
            rw [show ((i + 1 : Nat) : Int) - j = (i : Int) - j + 1 by omega]
            exact this)
          rw [← this]
          rfl
        · rw [if_neg h9, if_neg h9]
          unfold k164_1
          rw [ckF (by constructor <;> simp only <;> omega)]
          have := ih (i + 1) v (by omega) (by omega) (by omega) (by
            have := hv.more (by omega)
            rw [show ((i + 1 : Nat) : Int) - j = (i : Int) - j + 1 by omega]
            exact this)
          rw [← this]
          rfl
      · rw [if_neg h2, ckF (by constructor <;> omega)]
        rw [digRun_eq, dif_neg (fun h => h2 h.2)]
        by_cases h9 : (9 : Int) < (i : Int) - j
        · rw [if_pos h9, if_pos h9]
        · rw [if_neg h9, if_neg h9]
    · rw [if_neg (by omega), ckF (by constructor <;> omega)]
      rw [digRun_eq, dif_neg (fun h => h1 h.1)]
      by_cases h9 : (9 : Int) < (i : Int) - j
      · rw [if_pos h9, if_pos h9]
      · rw [if_neg h9, if_neg h9]
theorem s164_ok {n : Nat} {s : List UInt8} {j : Nat} (hs : s.length ≤ 1100) (hn : s.length < n) (hj : j ≤ s.length) : s164 n s j = some (numTok s j) := by
  unfold s164 numTok
  exact l164_ok n s j hs n j 0 (by omega) (Nat.le_refl _) hj (by unfold Dg; omega)

def wEndF (s : List UInt8) : Nat → Nat → Nat
  | 0, i => i
  | m + 1, i => if i < s.length ∧ s165 (bt s i) = true then wEndF s m (i + 1) else i
def wEnd (s : List UInt8) (i : Nat) : Nat := wEndF s (s.length - i) i
theorem wEnd_eq (s : List UInt8) (i : Nat) : wEnd s i = if h : i < s.length ∧ s165 (bt s i) = true then wEnd s (i + 1) else i := by
  unfold wEnd
  by_cases h : i < s.length ∧ s165 (bt s i) = true
  · rw [dif_pos h, show s.length - i = (s.length - (i + 1)) + 1 by omega]
    exact if_pos h
  · rw [dif_neg h]
    cases s.length - i with
    | zero => rfl
    | succ m => exact if_neg h
theorem wEnd_ind (s : List UInt8) {motive : Nat → Prop} (case1 : ∀ i, (i < s.length ∧ s165 (bt s i) = true) → motive (i + 1) → motive i) (case2 : ∀ i, ¬ (i < s.length ∧ s165 (bt s i) = true) → motive i) (i : Nat) : motive i :=
  run_ind (n := s.length) (fun _ h => h.1) case1 case2 i
theorem wEnd_le (s : List UInt8) (i : Nat) : i ≤ wEnd s i := by
  induction i using wEnd_ind s with
  | case1 i h ih => rw [wEnd_eq, dif_pos h]; omega
  | case2 i h => rw [wEnd_eq, dif_neg h]; exact Nat.le_refl _
theorem wEnd_len (s : List UInt8) (i : Nat) (h : i ≤ s.length) : wEnd s i ≤ s.length := by
  induction i using wEnd_ind s with
  | case1 i hc ih => rw [wEnd_eq, dif_pos hc]; exact ih (by omega)
  | case2 i hc => rw [wEnd_eq, dif_neg hc]; exact h

/-! ### Words -/
/-- The automaton's reading of a word: state and reference. -/
def aStep (q : Int) (r : RefT) (c : Int) : Int × RefT :=
  let q' := s205 q c
  (q', if q' = 1 then { r with ac := true } else if q' = 2 then { r with col := c - 65 } else if q' = 3 then { r with ar := true } else if q' = 4 ∨ q' = 5 then { r with row := r.row * 10 + (c - 48) } else r)
def aRun (q : Int) (r : RefT) : List UInt8 → Int × RefT
  | [] => (q, r)
  | c :: w => aRun (aStep q r (c.toNat : Int)).1 (aStep q r (c.toNat : Int)).2 w
/-- A word as a reference. -/
def refOf (w : List UInt8) : Option RefT :=
  let a := aRun 0 dRef w
  if a.1 = 4 ∨ a.1 = 5 then some { a.2 with row := a.2.row - 1 } else none
/-- The function of that name. -/
def fIdx (w : List UInt8) : Int :=
  if w = s195 1 then 1 else if w = s195 2 then 2 else if w = s195 3 then 3 else if w = s195 4 then 4 else if w = s195 5 then 5
  else if w = s195 6 then 6 else if w = s195 7 then 7 else if w = s195 8 then 8 else if w = s195 9 then 9 else if w = s195 10 then 10 else 0
def wordAt (s : List UInt8) (j e : Nat) : List UInt8 := (s.take e).drop j
/-- The word's token. -/
def wordTok (s : List UInt8) (j : Nat) : TokT :=
  let e := wEnd s j
  let w := wordAt s j e
  match refOf w with
  | some r => ⟨4, j, e, 0, 0, r⟩
  | none =>
    if w = [84, 82, 85, 69] then ⟨2, j, e, 2, 1, dRef⟩
    else if w = [70, 65, 76, 83, 69] then ⟨2, j, e, 2, 0, dRef⟩
    else if fIdx w = 0 then ⟨3, j, e, 0, 5, dRef⟩ else ⟨5, j, e, 0, fIdx w, dRef⟩
theorem stepF (q c : Int) : 0 ≤ s205 q c ∧ s205 q c ≤ 6 ∧ (s205 q c = 1 → q = 0) ∧ (s205 q c = 2 → 65 ≤ c ∧ c ≤ 90 ∧ (q = 0 ∨ q = 1)) ∧ (s205 q c = 3 → q = 2) ∧ (s205 q c = 4 → 49 ≤ c ∧ c ≤ 57 ∧ (q = 2 ∨ q = 3)) ∧ (s205 q c = 5 → 48 ≤ c ∧ c ≤ 57 ∧ q = 4) ∧ (s205 q c ≠ 0) := by
  unfold s205
  repeat' split
  all_goals omega
/-- What the reading keeps: before the digits the row is 0; behind them it has as many. -/
def aInv (q : Int) (r : RefT) : Prop := (q ≤ 3 → r.row = 0) ∧ (q = 4 → 1 ≤ r.row ∧ r.row ≤ 9) ∧ (q = 5 → 10 ≤ r.row ∧ r.row ≤ 99) ∧ 0 ≤ r.row ∧ r.row ≤ 99 ∧ 0 ≤ r.col ∧ r.col ≤ 25
theorem aStep_inv {q : Int} {r : RefT} {c : Int} (h : aInv q r) (h0 : 0 ≤ q) : aInv (aStep q r c).1 (aStep q r c).2 ∧ 0 ≤ (aStep q r c).1 := by
  have hf := stepF q c
  unfold aStep
  simp only
  generalize s205 q c = q' at hf
  unfold aInv at *
  repeat' split
  all_goals (first | omega | (simp only; omega))
theorem wordAt_next {s : List UInt8} {j i : Nat} (hj : j ≤ i) (hi : i < s.length) : wordAt s j (i + 1) = wordAt s j i ++ [s.getD i 0] := by
  unfold wordAt
  rw [← List.take_append_getElem hi, List.drop_append_of_le_length (by simp; omega)]
  congr 1
  simp [List.getD_eq_getElem?_getD, hi]
theorem aRun_append (w v : List UInt8) : ∀ q r, aRun q r (w ++ v) = aRun (aRun q r w).1 (aRun q r w).2 v := by
  induction w with
  | nil => intro q r; rfl
  | cons c w ih => intro q r; simp only [List.cons_append, aRun]; exact ih _ _
theorem fIdx_names (x : Int) (hx : 1 ≤ x ∧ x ≤ 10) : fIdx (s195 x) = x := by
  have : x = 1 ∨ x = 2 ∨ x = 3 ∨ x = 4 ∨ x = 5 ∨ x = 6 ∨ x = 7 ∨ x = 8 ∨ x = 9 ∨ x = 10 := by omega
  rcases this with rfl | rfl | rfl | rfl | rfl | rfl | rfl | rfl | rfl | rfl <;> decide
theorem fIdx_bd (w : List UInt8) : 0 ≤ fIdx w ∧ fIdx w ≤ 10 := by
  unfold fIdx
  repeat' split
  all_goals omega
theorem fIdx_eq (w : List UInt8) (h : fIdx w ≠ 0) : s195 (fIdx w) = w := by
  unfold fIdx at *
  repeat' split
  all_goals simp_all
theorem l166_5_ok (n : Nat) (s : List UInt8) (z : Int) (t0 : TokT) (w : List UInt8) (hw : List.drop (Int.toNat z) (List.take (Int.toNat t0.end_) s) = w) : ∀ (m : Nat) (x : Int) (t : TokT), 11 - x < m → 1 ≤ x → x ≤ 11 →
    l166_5 n s z t0 m x t = some (if x ≤ fIdx w then { t with kind := 5, n := fIdx w } else t) := by
  intro m
  induction m with
  | zero => intro x t h; omega
  | succ m ih =>
    intro x t hm h1 h2
    show l166_5_st n s z t0 (l166_5 n s z t0 m) x t = _
    unfold l166_5_st
    rw [hw]
    have hb := fIdx_bd w
    by_cases hx : x ≤ 10
    · rw [if_pos hx]
      unfold k166_4
      by_cases he : (s195 x == w) = true
      · rw [if_pos he, ckF (by constructor <;> omega), ih (x + 1) _ (by omega) (by omega) (by omega)]
        have he := beq_iff_eq.1 he
        have : fIdx w = x := by rw [← he]; exact fIdx_names x ⟨h1, hx⟩
        rw [this, if_neg (by omega), if_pos (by omega)]
      · rw [if_neg he, ckF (by constructor <;> omega), ih (x + 1) _ (by omega) (by omega) (by omega)]
        have hne : fIdx w ≠ x := by
          intro hh
          apply he
          rw [beq_iff_eq, ← hh]
          exact fIdx_eq w (by omega)
        by_cases h3 : x ≤ fIdx w
        · rw [if_pos (by omega), if_pos h3]
        · rw [if_neg (by omega), if_neg h3]
    · rw [if_neg hx, if_neg (by omega)]
theorem l166_ok (n : Nat) (s : List UInt8) (j : Nat) (hs : s.length ≤ 1100) (hn : 12 ≤ n) : ∀ (m i : Nat) (q : Int) (r : RefT), s.length - i < m → j ≤ i → i ≤ s.length → aRun 0 dRef (wordAt s j i) = (q, r) → aInv q r → 0 ≤ q → wEnd s i = wEnd s j →
    l166_10 n s j m q ⟨4, j, i, 0, 0, r⟩ = some (wordTok s j) := by
  intro m
  induction m with
  | zero => intro i q r h; omega
  | succ m ih =>
    intro i q r hm hj hi hr hinv hq hw
    show l166_10_st n s j (l166_10 n s j m) q ⟨4, j, i, 0, 0, r⟩ = _
    have fin : ¬ (i < s.length ∧ s165 (bt s i) = true) →
        (if q = (4 : Int) then ck (i64ok (r.row - (1 : Int))) (some (⟨4, j, i, 0, 0, { r with row := r.row - (1 : Int) }⟩ : TokT))
        else if q = (5 : Int) then ck (i64ok (r.row - (1 : Int))) (some (⟨4, j, i, 0, 0, { r with row := r.row - (1 : Int) }⟩ : TokT))
        else ck (0 ≤ (j : Int) ∧ (j : Int) ≤ (i : Int) ∧ (i : Int) ≤ (s.length : Int)) <|
          (if ((List.drop (Int.toNat (j : Int)) (List.take (Int.toNat (i : Int)) s)) == ([84, 82, 85, 69] : List UInt8)) = true then
            ck (i64ok ((5 : Int) - ((List.drop (Int.toNat (j : Int)) (List.take (Int.toNat (i : Int)) s)).length : Int))) (some (⟨(2 : Int), j, i, (2 : Int), ((5 : Int) - ((List.drop (Int.toNat (j : Int)) (List.take (Int.toNat (i : Int)) s)).length : Int)), (⟨(0 : Int), (0 : Int), false, false⟩ : RefT)⟩ : TokT))
          else if ((List.drop (Int.toNat (j : Int)) (List.take (Int.toNat (i : Int)) s)) == ([70, 65, 76, 83, 69] : List UInt8)) = true then
            ck (i64ok ((5 : Int) - ((List.drop (Int.toNat (j : Int)) (List.take (Int.toNat (i : Int)) s)).length : Int))) (some (⟨(2 : Int), j, i, (2 : Int), ((5 : Int) - ((List.drop (Int.toNat (j : Int)) (List.take (Int.toNat (i : Int)) s)).length : Int)), (⟨(0 : Int), (0 : Int), false, false⟩ : RefT)⟩ : TokT))
          else l166_5 n s j ⟨4, j, i, 0, 0, r⟩ n (1 : Int) (⟨3, j, i, 0, 5, (⟨(0 : Int), (0 : Int), false, false⟩ : RefT)⟩ : TokT))) = some (wordTok s j) := by
      intro hend
      have hwi : wEnd s j = i := by rw [← hw, wEnd_eq, dif_neg hend]
      have hword : List.drop (Int.toNat (j : Int)) (List.take (Int.toNat (i : Int)) s) = wordAt s j i := by simp [wordAt]
      unfold aInv at hinv
      unfold wordTok refOf
      simp only [hwi, hr, hword]
      by_cases h4 : q = 4
      · rw [if_pos h4, ckF (by constructor <;> omega), if_pos (.inl h4)]
      · rw [if_neg h4]
        by_cases h5 : q = 5
        · rw [if_pos h5, ckF (by constructor <;> omega), if_pos (.inr h5)]
        · rw [if_neg h5, ckF (by omega)]
          simp only [h4, h5, or_self, if_false]
          by_cases hT : wordAt s j i = [84, 82, 85, 69]
          · rw [if_pos (by rw [beq_iff_eq]; exact hT), ckF (by rw [hT]; decide), if_pos hT, hT]
            rfl
          · rw [if_neg (by rw [beq_iff_eq]; exact hT), if_neg hT]
            by_cases hF : wordAt s j i = [70, 65, 76, 83, 69]
            · rw [if_pos (by rw [beq_iff_eq]; exact hF), ckF (by rw [hF]; decide), if_pos hF, hF]
              rfl
            · rw [if_neg (by rw [beq_iff_eq]; exact hF), if_neg hF]
              rw [l166_5_ok n s j _ (wordAt s j i) hword n 1 _ (by omega) (by omega) (by omega)]
              have hb := fIdx_bd (wordAt s j i)
              by_cases h0 : fIdx (wordAt s j i) = 0
              · rw [if_neg (by omega), if_pos h0]; rfl
              · rw [if_pos (by omega), if_neg h0]; rfl
    unfold l166_10_st
    simp only [bt_eq]
    by_cases h1 : i < s.length
    · rw [if_pos (by omega), ckF (by omega)]
      by_cases h2 : s165 (bt s i) = true
      · rw [if_pos h2]
        have hf := stepF q (bt s i)
        have hst := aStep_inv (c := bt s i) hinv hq
        have hrun : aRun 0 dRef (wordAt s j (i + 1)) = aStep q r (bt s i) := by
          rw [wordAt_next hj h1, aRun_append, hr]
          rfl
        have hwe : wEnd s (i + 1) = wEnd s j := by rw [← hw]; conv => rhs; rw [wEnd_eq, dif_pos ⟨h1, h2⟩]
        have key := ih (i + 1) (aStep q r (bt s i)).1 (aStep q r (bt s i)).2 (by omega) (by omega) (by omega) hrun hst.1 hst.2 hwe
        unfold aInv at hinv
        unfold k166_1
        simp only [bt_eq]
        rw [← key]
        unfold aStep
        simp only
        generalize s205 q (bt s i) = q' at hf
        by_cases c1 : q' = 1
        · rw [if_pos c1, ckF (by constructor <;> omega)]; simp only [c1]; rfl
        rw [if_neg c1]
        by_cases c2 : q' = 2
        · rw [if_pos c2, ckF (by omega), ckF (by constructor <;> omega), ckF (by constructor <;> omega)]; simp only [c2]; rfl
        rw [if_neg c2]
        by_cases c3 : q' = 3
        · rw [if_pos c3, ckF (by constructor <;> omega)]; simp only [c3]; rfl
        rw [if_neg c3]
        by_cases c4 : q' = 4
        · rw [if_pos c4, ckF (by constructor <;> omega), ckF (by omega), ckF (by constructor <;> omega), ckF (by constructor <;> omega), ckF (by constructor <;> omega)]; simp only [c4]; rfl
        rw [if_neg c4]
        by_cases c5 : q' = 5
        · rw [if_pos c5, ckF (by constructor <;> omega), ckF (by omega), ckF (by constructor <;> omega), ckF (by constructor <;> omega), ckF (by constructor <;> omega)]; simp only [c5]; rfl
        rw [if_neg c5, ckF (by constructor <;> omega)]
        simp only [c1, c2, c3, c4, c5, if_false, or_self]
        rfl
      · rw [if_neg h2]
        exact fin (fun h => h2 h.2)
    · rw [if_neg (by omega)]
      exact fin (fun h => h1 h.1)
theorem s166_ok {n : Nat} {s : List UInt8} {j : Nat} (hs : s.length ≤ 1100) (hn : s.length + 12 < n) (hj : j ≤ s.length) : s166 n s j = some (wordTok s j) := by
  unfold s166
  refine l166_ok n s j hs (by omega) n j 0 dRef (by omega) (Nat.le_refl _) hj ?_ (by unfold aInv dRef; simp) (by omega) rfl
  have : wordAt s j j = [] := by simp [wordAt]
  rw [this]
  rfl

/-! ### Signs; tokens -/
def sgn (j : Nat) (c d : Int) : TokT :=
  if c = 40 then ⟨c, j, (j : Int) + 1, 0, 0, dRef⟩
  else if c = 41 then ⟨c, j, (j : Int) + 1, 0, 0, dRef⟩
  else if c = 44 then ⟨c, j, (j : Int) + 1, 0, 0, dRef⟩
  else if c = 58 then ⟨c, j, (j : Int) + 1, 0, 0, dRef⟩
  else if c = 43 then ⟨6, j, (j : Int) + 1, 0, 7, dRef⟩
  else if c = 45 then ⟨6, j, (j : Int) + 1, 0, 8, dRef⟩
  else if c = 42 then ⟨6, j, (j : Int) + 1, 0, 9, dRef⟩
  else if c = 47 then ⟨6, j, (j : Int) + 1, 0, 10, dRef⟩
  else if c = 61 then ⟨6, j, (j : Int) + 1, 0, 1, dRef⟩
  else if c = 60 then
    if d = 61 then ⟨6, j, (j : Int) + 2, 0, 4, dRef⟩ else if d = 62 then ⟨6, j, (j : Int) + 2, 0, 2, dRef⟩ else ⟨6, j, (j : Int) + 1, 0, 3, dRef⟩
  else if c = 62 then
    if d = 61 then ⟨6, j, (j : Int) + 2, 0, 6, dRef⟩ else ⟨6, j, (j : Int) + 1, 0, 5, dRef⟩
  else if c = 35 then
    if d = 35 then ⟨2, j, (j : Int) + 2, 5, 0, dRef⟩ else ⟨3, j, (j : Int) + 1, 0, 2, dRef⟩
  else ⟨1, j, (j : Int) + 1, 0, 0, dRef⟩
def nxt (s : List UInt8) (j : Nat) : Int := if j + 1 < s.length then bt s (j + 1) else 0
theorem k167_ok {s : List UInt8} {j : Nat} (d : Int) (hs : s.length ≤ 1100) (hj : j < s.length) : k167_0 s j d = some (sgn j (bt s j) d) := by
  unfold k167_0 sgn
  have h2 : i64ok ((j : Int) + 2) := by constructor <;> omega
  rw [ckF (by omega)]
  simp only [bt_eq, ckF h2, apply_ite some]
  rfl
theorem s167_ok {s : List UInt8} {j : Nat} (hs : s.length ≤ 1100) (hj : j < s.length) : s167 s j = some (sgn j (bt s j) (nxt s j)) := by
  unfold s167 nxt
  rw [ckF (by constructor <;> omega)]
  by_cases h : j + 1 < s.length
  · rw [if_pos (by omega), if_pos h, ckF (by omega), show ((j : Int) + 1) = ((j + 1 : Nat) : Int) by omega, bt_eq]
    exact k167_ok _ hs hj
  · rw [if_neg (by omega), if_neg h]
    exact k167_ok _ hs hj
/-- The token that opens at j. -/
def rawTok (s : List UInt8) (j : Nat) : TokT := if s163 (bt s j) = true then numTok s j else if s165 (bt s j) = true then wordTok s j else sgn j (bt s j) (nxt s j)
/-- The token at hand at place i. -/
def tok (s : List UInt8) (i : Nat) : TokT := if skip s i < s.length then rawTok s (skip s i) else ⟨0, s.length, s.length, 0, 0, dRef⟩
theorem sgn_shape (j : Nat) (c d : Int) : ∃ k op n, (sgn j c d = ⟨k, j, (j : Int) + 1, op, n, dRef⟩ ∨ (sgn j c d = ⟨k, j, (j : Int) + 2, op, n, dRef⟩ ∧ d ≠ 0)) ∧ k ≠ 0 := by
  unfold sgn
  by_cases h : c = 40
  · rw [if_pos h]; exact ⟨_, _, _, .inl rfl, by omega⟩
  rw [if_neg h]; clear h
  by_cases h : c = 41
  · rw [if_pos h]; exact ⟨_, _, _, .inl rfl, by omega⟩
  rw [if_neg h]; clear h
  by_cases h : c = 44
  · rw [if_pos h]; exact ⟨_, _, _, .inl rfl, by omega⟩
  rw [if_neg h]; clear h
  by_cases h : c = 58
  · rw [if_pos h]; exact ⟨_, _, _, .inl rfl, by omega⟩
  rw [if_neg h]; clear h
  by_cases h : c = 43
  · rw [if_pos h]; exact ⟨_, _, _, .inl rfl, by decide⟩
  rw [if_neg h]; clear h
  by_cases h : c = 45
  · rw [if_pos h]; exact ⟨_, _, _, .inl rfl, by decide⟩
  rw [if_neg h]; clear h
  by_cases h : c = 42
  · rw [if_pos h]; exact ⟨_, _, _, .inl rfl, by decide⟩
  rw [if_neg h]; clear h
  by_cases h : c = 47
  · rw [if_pos h]; exact ⟨_, _, _, .inl rfl, by decide⟩
  rw [if_neg h]; clear h
  by_cases h : c = 61
  · rw [if_pos h]; exact ⟨_, _, _, .inl rfl, by decide⟩
  rw [if_neg h]; clear h
  by_cases h : c = 60
  · rw [if_pos h]
    by_cases h2 : d = 61
    · rw [if_pos h2]; exact ⟨_, _, _, .inr ⟨rfl, by omega⟩, by decide⟩
    rw [if_neg h2]; clear h2
    by_cases h2 : d = 62
    · rw [if_pos h2]; exact ⟨_, _, _, .inr ⟨rfl, by omega⟩, by decide⟩
    rw [if_neg h2]; clear h2
    exact ⟨_, _, _, .inl rfl, by decide⟩
  rw [if_neg h]; clear h
  by_cases h : c = 62
  · rw [if_pos h]
    by_cases h2 : d = 61
    · rw [if_pos h2]; exact ⟨_, _, _, .inr ⟨rfl, by omega⟩, by decide⟩
    rw [if_neg h2]; clear h2
    exact ⟨_, _, _, .inl rfl, by decide⟩
  rw [if_neg h]; clear h
  by_cases h : c = 35
  · rw [if_pos h]
    by_cases h2 : d = 35
    · rw [if_pos h2]; exact ⟨_, _, _, .inr ⟨rfl, by omega⟩, by decide⟩
    rw [if_neg h2]; clear h2
    exact ⟨_, _, _, .inl rfl, by decide⟩
  rw [if_neg h]; clear h
  exact ⟨_, _, _, .inl rfl, by decide⟩
theorem rawTok_at {s : List UInt8} {j : Nat} (hj : j < s.length) : (rawTok s j).at_ = j ∧ ∃ e : Nat, (rawTok s j).end_ = e ∧ j < e ∧ e ≤ s.length := by
  unfold rawTok
  by_cases h1 : s163 (bt s j) = true
  · rw [if_pos h1]
    have h2 := digRun_len s j j 0 (by omega)
    have h3 : j + 1 ≤ (digRun s j j 0).1 := by rw [digRun_eq, dif_pos ⟨hj, h1⟩]; exact digRun_le _ _ _ _
    unfold numTok
    split <;> exact ⟨rfl, _, rfl, h3, h2⟩
  · rw [if_neg h1]
    by_cases h4 : s165 (bt s j) = true
    · rw [if_pos h4]
      have h2 := wEnd_len s j (by omega)
      have h3 : j + 1 ≤ wEnd s j := by rw [wEnd_eq, dif_pos ⟨hj, h4⟩]; exact wEnd_le _ _
      unfold wordTok
      simp only
      cases refOf (wordAt s j (wEnd s j)) with
      | some r => exact ⟨rfl, _, rfl, h3, h2⟩
      | none =>
        simp only
        repeat' split
        all_goals exact ⟨rfl, _, rfl, h3, h2⟩
    · rw [if_neg h4]
      have hn : j + 1 < s.length ∨ nxt s j = 0 := by
        unfold nxt
        split
        · left; assumption
        · right; rfl
      obtain ⟨k, op, n, h5, _⟩ := sgn_shape j (bt s j) (nxt s j)
      rcases h5 with h5 | ⟨h5, h6⟩
      · rw [h5]; exact ⟨rfl, j + 1, by simp, by omega, by omega⟩
      · rw [h5]; exact ⟨rfl, j + 2, by simp, by omega, by omega⟩
theorem tok_skip (s : List UInt8) (i : Nat) : tok s (skip s i) = tok s i := by unfold tok; rw [skip_skip]
theorem tok_at {s : List UInt8} {i : Nat} (hi : i ≤ s.length) : (tok s i).at_ = skip s i := by
  unfold tok
  have := skip_len s i hi
  split
  · rename_i h; exact (rawTok_at h).1
  · simp only; omega
/-- The tokens from place i on. -/
def toksF (s : List UInt8) : Nat → Nat → List TokT
  | 0, _ => [⟨0, s.length, s.length, 0, 0, dRef⟩]
  | m + 1, i => if skip s i < s.length then rawTok s (skip s i) :: toksF s m ((rawTok s (skip s i)).end_.toNat) else [⟨0, s.length, s.length, 0, 0, dRef⟩]
theorem toks_next {s : List UInt8} {i : Nat} (h : skip s i < s.length) : i < (rawTok s (skip s i)).end_.toNat ∧ i < s.length := by
  obtain ⟨_, e, he, h1, h2⟩ := rawTok_at h
  have := skip_le s i
  rw [he]
  omega
theorem toksF_any (s : List UInt8) : ∀ (m k i : Nat), s.length - i ≤ m → s.length - i ≤ k → toksF s m i = toksF s k i := by
  have none : ∀ k i, ¬ skip s i < s.length → toksF s k i = [⟨0, s.length, s.length, 0, 0, dRef⟩] := by
    intro k i h
    cases k with
    | zero => rfl
    | succ k => exact if_neg h
  intro m
  induction m with
  | zero =>
    intro k i h1 h2
    have h : ¬ skip s i < s.length := fun h => by have := (toks_next h).2; omega
    rw [none _ _ h, none _ _ h]
  | succ m ih =>
    intro k i h1 h2
    by_cases h : skip s i < s.length
    · obtain ⟨g1, g2⟩ := toks_next h
      cases k with
      | zero => omega
      | succ k =>
        show (if _ then _ else _) = (if _ then _ else _)
        rw [if_pos h, if_pos h, ih k _ (by omega) (by omega)]
    · rw [none _ _ h, none _ _ h]
def toksFrom (s : List UInt8) (i : Nat) : List TokT := toksF s (s.length - i) i
theorem toksFrom_eq (s : List UInt8) (i : Nat) : toksFrom s i = if h : skip s i < s.length then rawTok s (skip s i) :: toksFrom s ((rawTok s (skip s i)).end_.toNat) else [⟨0, s.length, s.length, 0, 0, dRef⟩] := by
  by_cases h : skip s i < s.length
  · rw [dif_pos h]
    obtain ⟨g1, g2⟩ := toks_next h
    unfold toksFrom
    rw [toksF_any s (s.length - i) ((s.length - i - 1) + 1) i (by omega) (by omega)]
    show (if _ then _ else _) = _
    rw [if_pos h, toksF_any s (s.length - i - 1) _ _ (by omega) (Nat.le_refl _)]
  · rw [dif_neg h]
    unfold toksFrom
    cases s.length - i with
    | zero => rfl
    | succ m => exact if_neg h
theorem toksFrom_ind (s : List UInt8) {motive : Nat → Prop} (case1 : ∀ i, skip s i < s.length → motive ((rawTok s (skip s i)).end_.toNat) → motive i) (case2 : ∀ i, ¬ skip s i < s.length → motive i) (i : Nat) : motive i := by
  have : ∀ m i, s.length - i ≤ m → motive i := by
    intro m
    induction m with
    | zero => intro i hi; exact case2 i (fun h => by have := (toks_next h).2; omega)
    | succ m ih =>
      intro i hi
      by_cases h : skip s i < s.length
      · have := toks_next h
        exact case1 i h (ih _ (by omega))
      · exact case2 i h
  exact this _ i (Nat.le_refl _)
theorem toksFrom_len (s : List UInt8) (i : Nat) (hi : i ≤ s.length) : (toksFrom s i).length ≤ s.length - i + 1 ∧ 0 < (toksFrom s i).length := by
  induction i using toksFrom_ind s with
  | case1 i hc ih =>
    obtain ⟨_, e, he, h1, h2⟩ := rawTok_at hc
    have := skip_le s i
    rw [toksFrom_eq, dif_pos hc]
    rw [he] at ih ⊢
    have := ih (by omega)
    simp only [List.length_cons]
    simp only [Int.toNat_natCast] at this ⊢
    omega
  | case2 i hc => rw [toksFrom_eq, dif_neg hc]; simp
theorem rawTok_kind (s : List UInt8) (j : Nat) : (rawTok s j).kind ≠ 0 := by
  unfold rawTok
  split
  · unfold numTok
    split <;> simp
  · split
    · unfold wordTok
      simp only
      cases refOf (wordAt s j (wEnd s j)) with
      | some r => simp
      | none =>
        simp only
        repeat' split
        all_goals simp
    · obtain ⟨k, op, n, h5, h6⟩ := sgn_shape j (bt s j) (nxt s j)
      rcases h5 with h5 | ⟨h5, _⟩ <;> rw [h5] <;> exact h6
theorem toksFrom_get (s : List UInt8) (i : Nat) (hi : i ≤ s.length) : (toksFrom s i)[0]? = some (tok s i) ∧ ∀ k t, (toksFrom s i)[k]? = some t → (t.kind = 0 ∧ k + 1 = (toksFrom s i).length ∨ t.kind ≠ 0 ∧ ∃ e : Nat, t.end_ = (e : Int) ∧ e ≤ s.length ∧ t.at_ < t.end_ ∧ (toksFrom s i)[k + 1]? = some (tok s e)) := by
  induction i using toksFrom_ind s with
  | case1 i hc ih =>
    obtain ⟨ha, e, he, h1, h2⟩ := rawTok_at hc
    rw [he] at ih
    simp only [Int.toNat_natCast] at ih
    have ih := ih (by omega)
    rw [toksFrom_eq, dif_pos hc, he]
    simp only [Int.toNat_natCast]
    refine ⟨by simp [tok, hc], fun k t hkt => ?_⟩
    cases k with
    | zero =>
      simp only [List.getElem?_cons_zero, Option.some.injEq] at hkt
      subst hkt
      exact .inr ⟨rawTok_kind _ _, e, he, h2, by rw [ha, he]; omega, by simp only [List.getElem?_cons_succ]; exact ih.1⟩
    | succ k =>
      simp only [List.getElem?_cons_succ] at hkt
      rcases ih.2 k t hkt with ⟨h3, h4⟩ | ⟨h3, e', h4, h5, h6, h7⟩
      · exact .inl ⟨h3, by simp only [List.length_cons]; omega⟩
      · exact .inr ⟨h3, e', h4, h5, h6, by simp only [List.getElem?_cons_succ]; exact h7⟩
  | case2 i hc =>
    rw [toksFrom_eq, dif_neg hc]
    refine ⟨by simp [tok, hc], fun k t hkt => ?_⟩
    cases k with
    | zero => simp only [List.getElem?_cons_zero, Option.some.injEq] at hkt; subst hkt; exact .inl ⟨rfl, by simp⟩
    | succ k => simp at hkt
/-- What scan lays. -/
theorem l138_ok (n : Nat) (s : List UInt8) (hs : s.length ≤ 1100) (hn : s.length + 12 < n) : ∀ (m i : Nat) (S : FoS), s.length - i < m → i ≤ s.length → 0 ≤ S.nt → S.toks.length = 41 → S.nt.toNat + (toksFrom s i).length ≤ 41 →
    ∃ S', l138_2 n s m i S = some S' ∧ S' = { S with toks := S'.toks, nt := S.nt + (toksFrom s i).length } ∧ S'.toks.length = 41 ∧ (∀ k, k < S.nt.toNat → S'.toks[k]? = S.toks[k]?) ∧ ∀ k, k < (toksFrom s i).length → S'.toks[S.nt.toNat + k]? = (toksFrom s i)[k]? := by
  intro m
  induction m with
  | zero => intro i S h; omega
  | succ m ih =>
    intro i S hm hi hnt hl hlen
    show ∃ S', l138_2_st n s (l138_2 n s m) i S = some S' ∧ _
    unfold l138_2_st
    simp only [bt_eq]
    have put : ∀ t : TokT, (skip s i = i) → i < s.length → rawTok s i = t →
        ∃ S', k138_1 S (l138_2 n s m) t = some S' ∧ S' = { S with toks := S'.toks, nt := S.nt + (toksFrom s i).length } ∧ S'.toks.length = 41 ∧ (∀ k, k < S.nt.toNat → S'.toks[k]? = S.toks[k]?) ∧ ∀ k, k < (toksFrom s i).length → S'.toks[S.nt.toNat + k]? = (toksFrom s i)[k]? := by
      intro t hsk hlt ht
      obtain ⟨_, e, he, h1, h2⟩ := rawTok_at hlt
      have hf : toksFrom s i = t :: toksFrom s e := by
        rw [toksFrom_eq, dif_pos (by rw [hsk]; exact hlt), hsk, ht]
        rw [ht] at he
        rw [he]; simp
      rw [hf] at hlen ⊢
      simp only [List.length_cons] at hlen
      unfold k138_1
      have hx : S.toks[S.nt.toNat]? = some (S.toks.getD S.nt.toNat dTok) := getD_get' (by omega)
      rw [getT (x := S.toks.getD S.nt.toNat dTok) (by omega) (by omega) hx]
      simp only [Option.bind_some]
      rw [ckF (by constructor <;> omega)]
      rw [← ht, he]
      obtain ⟨S', e1, e2, e3, e4, e5⟩ := ih e { S with toks := List.set S.toks (Int.toNat S.nt) (rawTok s i), nt := S.nt + 1 } (by omega) h2 (by simp only; omega) (by simp [hl]) (by simp only; omega)
      refine ⟨S', e1, ?_, e3, ?_, ?_⟩
      · rw [e2]; simp only [List.length_cons]; congr 1; omega
      · intro k hk
        rw [e4 k (by simp only; omega)]
        rw [List.getElem?_set_ne (by omega)]
      · intro k hk
        cases k with
        | zero =>
          rw [e4 _ (by simp only; omega)]
          simp only [Nat.add_zero, List.getElem?_cons_zero]
          rw [List.getElem?_set_self (by omega)]
        | succ k =>
          have := e5 k (by simp only [List.length_cons] at hk; omega)
          simp only [List.getElem?_cons_succ]
          rw [← this]
          congr 1
          simp only
          omega
    by_cases h1 : i < s.length
    · rw [if_pos (by omega), ckF (by omega)]
      by_cases h2 : bt s i = 32
      · rw [if_pos h2, ckF (by constructor <;> omega)]
        have hsk : skip s (i + 1) = skip s i := by conv => rhs; rw [skip_eq, dif_pos ⟨h1, h2⟩]
        have hf : toksFrom s (i + 1) = toksFrom s i := by
          rw [toksFrom_eq s (i + 1), toksFrom_eq s i]
          simp only [hsk]
        have := ih (i + 1) S (by omega) (by omega) hnt hl (by rw [hf]; exact hlen)
        rw [hf] at this
        exact this
      · rw [if_neg h2]
        have hsk : skip s i = i := skip_self (fun h => h2 h.2)
        by_cases h3 : s163 (bt s i) = true
        · rw [if_pos h3, s164_ok hs (by omega) (by omega)]
          exact put _ hsk h1 (by unfold rawTok; rw [if_pos h3])
        · rw [if_neg h3]
          by_cases h4 : s165 (bt s i) = true
          · rw [if_pos h4, s166_ok hs (by omega) (by omega)]
            exact put _ hsk h1 (by unfold rawTok; rw [if_neg h3, if_pos h4])
          · rw [if_neg h4, s167_ok hs h1]
            exact put _ hsk h1 (by unfold rawTok; rw [if_neg h3, if_neg h4])
    · rw [if_neg (by omega)]
      have hsk : skip s i = i := skip_self (fun h => h1 h.1)
      have hf : toksFrom s i = [⟨0, s.length, s.length, 0, 0, dRef⟩] := by rw [toksFrom_eq, dif_neg (by rw [hsk]; exact h1)]
      rw [hf] at hlen ⊢
      simp only [List.length_cons, List.length_nil] at hlen
      have hx : S.toks[S.nt.toNat]? = some (S.toks.getD S.nt.toNat dTok) := getD_get' (by omega)
      rw [getT (x := S.toks.getD S.nt.toNat dTok) (by omega) (by omega) hx]
      simp only [Option.bind_some]
      rw [ckF (by constructor <;> omega)]
      refine ⟨_, rfl, rfl, by simp [hl], ?_, ?_⟩
      · intro k hk
        simp only
        rw [List.getElem?_set_ne (by omega)]
      · intro k hk
        simp only [List.length_cons, List.length_nil] at hk
        obtain rfl : k = 0 := by omega
        simp only [Nat.add_zero, List.getElem?_cons_zero]
        rw [List.getElem?_set_self (by omega)]
        rfl
end Go.Proofs.Qxb6500272aGreat
