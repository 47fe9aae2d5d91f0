/-
  Plain laws, the parser: how the model reads bytes.
-/
import Derived.Test.Qxb6500272aGreatL0
namespace Go.Proofs.Qxb6500272aGreat
open Go
set_option linter.unusedVariables false
set_option linter.unusedSimpArgs false

/-- What look comes to. -/
def lookR (S : RDS) (i : Nat) : RDS × Int :=
  if S.err = 0 then
    if skip S.s i < S.s.length then
      if s189 (bt S.s (skip S.s i)) = true then ({ S with i := skip S.s i }, bt S.s (skip S.s i)) else ({ S with i := skip S.s i, err := 2, pos := skip S.s i }, 0)
    else ({ S with i := skip S.s i }, 0)
  else ({ S with i := skip S.s i }, 0)
theorem l145_ok (n : Nat) (S0 : RDS) (hs : S0.s.length ≤ 1100) : ∀ (m i : Nat), S0.s.length - i < m → i ≤ S0.s.length →
    l145_0 n m { S0 with i := i } = some (lookR S0 i) := by
  intro m
  induction m with
  | zero => intro i h; omega
  | succ m ih =>
    intro i hm hi
    show l145_0_st n (l145_0 n m) { S0 with i := i } = _
    unfold l145_0_st lookR
    simp only [bt_eq]
    by_cases h1 : i < S0.s.length
    · rw [if_pos (by omega), ckF (by omega)]
      by_cases h2 : bt S0.s i = 32
      · rw [if_pos h2, ckF (by constructor <;> omega)]
        have hsk : skip S0.s (i + 1) = skip S0.s i := by conv => rhs; rw [skip_eq, dif_pos ⟨h1, h2⟩]
        have := ih (i + 1) (by omega) (by omega)
        unfold lookR at this
        rw [hsk] at this
        exact this
      · rw [if_neg h2]
        have hsk : skip S0.s i = i := skip_self (fun h => h2 h.2)
        rw [hsk]
        by_cases h3 : S0.err = 0
        · rw [if_pos h3, if_neg (by omega), if_pos h3, if_pos h1]
          by_cases h4 : s189 (bt S0.s i) = true
          · rw [if_pos h4, if_pos h4]
          · rw [if_neg h4, if_neg h4]
            unfold s146
            simp only
            rw [if_pos h3]
        · rw [if_neg h3, if_neg h3]
    · rw [if_neg (by omega)]
      have hsk : skip S0.s i = i := skip_self (fun h => h1 h.1)
      rw [hsk]
      by_cases h3 : S0.err = 0
      · rw [if_pos h3, if_pos (by omega), if_pos h3, if_neg h1]
      · rw [if_neg h3, if_neg h3]
theorem s145_ok {n : Nat} {S : RDS} {i : Nat} (hs : S.s.length ≤ 1100) (hn : S.s.length < n) (hi : i ≤ S.s.length) (e : S.i = i) : s145 n S = some (lookR S i) := by
  unfold s145
  have := l145_ok n S hs n i (by omega) hi
  rw [← e] at this
  exact this
theorem s165_not (c : Int) : ¬ s165 c = true ↔ (c < 65 ∨ 90 < c) ∧ (c < 48 ∨ 57 < c) ∧ c ≠ 36 := by
  rw [s165_iff]
  omega
theorem l242_ok (n : Nat) (S0 : RDS) (i0 : Nat) (e0 : S0.i = i0) (hs : S0.s.length ≤ 1100) : ∀ (m i : Nat), S0.s.length - i < m → i0 ≤ i → i ≤ S0.s.length →
    l242_2 n S0 m { S0 with i := i } = some ({ S0 with i := wEnd S0.s i }, wordAt S0.s i0 (wEnd S0.s i)) := by
  intro m
  induction m with
  | zero => intro i h; omega
  | succ m ih =>
    intro i hm h0 hi
    show l242_2_st n S0 (l242_2 n S0 m) { S0 with i := i } = _
    have fin : wEnd S0.s i = i → k242_1 S0 { S0 with i := i } = some ({ S0 with i := wEnd S0.s i }, wordAt S0.s i0 (wEnd S0.s i)) := by
      intro h
      rw [h]
      unfold k242_1
      simp only [e0]
      rw [ckF (by omega)]
      simp [wordAt]
    unfold l242_2_st
    simp only [bt_eq]
    by_cases h1 : i < S0.s.length
    · rw [if_pos (by omega), ckF (by omega)]
      by_cases h2 : s165 (bt S0.s i) = true
      · have hsk : wEnd S0.s (i + 1) = wEnd S0.s i := by conv => rhs; rw [wEnd_eq, dif_pos ⟨h1, h2⟩]
        have key := ih (i + 1) (by omega) (by omega) (by omega)
        rw [hsk] at key
        have h3 := (s165_iff _).1 h2
        have hok : i64ok ((i : Int) + 1) := by constructor <;> omega
        simp only [ckF hok]
        have step : l242_2 n S0 m { S0 with i := (i : Int) + 1 } = some ({ S0 with i := wEnd S0.s i }, wordAt S0.s i0 (wEnd S0.s i)) := by
          rw [← key]; rfl
        by_cases a1 : bt S0.s i < 65
        · rw [if_pos a1]
          by_cases a2 : bt S0.s i < 48
          · rw [if_pos a2, if_pos (by omega)]; exact step
          · rw [if_neg a2, if_neg (by omega)]; exact step
        · rw [if_neg a1, if_neg (by omega)]; exact step
      · have hw : wEnd S0.s i = i := by rw [wEnd_eq, dif_neg (fun h => h2 h.2)]
        have h3 := (s165_not _).1 h2
        by_cases a1 : bt S0.s i < 65
        · rw [if_pos a1]
          by_cases a2 : bt S0.s i < 48
          · rw [if_pos a2, if_neg (by omega)]; exact fin hw
          · rw [if_neg a2, if_pos (by omega), if_neg (by omega)]; exact fin hw
        · rw [if_neg a1, if_pos (by omega)]
          rw [if_neg (by omega), if_pos (by omega), if_neg (by omega)]; exact fin hw
    · rw [if_neg (by omega)]
      exact fin (by rw [wEnd_eq, dif_neg (fun h => h1 h.1)])
theorem s242_ok {n : Nat} {S : RDS} {i : Nat} (hs : S.s.length ≤ 1100) (hn : S.s.length < n) (hi : i ≤ S.s.length) (e : S.i = i) : s242 n S = some ({ S with i := wEnd S.s i }, wordAt S.s i (wEnd S.s i)) := by
  unfold s242
  have := l242_ok n S i e hs n i (by omega) (Nat.le_refl _) hi
  rw [← e] at this
  exact this
theorem l244_ok (n : Nat) (w : List UInt8) : ∀ (m : Nat) (x : Int), 11 - x < m → 1 ≤ x → x ≤ 11 → l244_0 n w m x = some (if x ≤ fIdx w then fIdx w else 0) := by
  intro m
  induction m with
  | zero => intro x h; omega
  | succ m ih =>
    intro x hm h1 h2
    show l244_0_st n w (l244_0 n w m) x = _
    unfold l244_0_st
    have hb := fIdx_bd w
    by_cases hx : x ≤ 10
    · rw [if_pos hx]
      by_cases he : (s195 x == w) = true
      · rw [if_pos he]
        have he := beq_iff_eq.1 he
        have : fIdx w = x := by rw [← he]; exact fIdx_names x ⟨h1, hx⟩
        rw [this, if_pos (by omega)]
      · rw [if_neg he, ckF (by constructor <;> omega), ih (x + 1) (by omega) (by omega) (by omega)]
        have hne : fIdx w ≠ x := by
          intro hh
          apply he
          rw [beq_iff_eq, ← hh]
          exact fIdx_eq w (by omega)
        by_cases h3 : x ≤ fIdx w
        · rw [if_pos (by omega), if_pos h3]
        · rw [if_neg (by omega), if_neg h3]
    · rw [if_neg hx, if_neg (by omega)]
theorem s244_ok {n : Nat} {w : List UInt8} (hn : 12 ≤ n) : s244 n w = some (fIdx w) := by
  unfold s244
  rw [l244_ok n w n 1 (by omega) (by omega) (by omega)]
  have hb := fIdx_bd w
  by_cases h : (1 : Int) ≤ fIdx w
  · rw [if_pos h]
  · rw [if_neg h]; congr 1; omega

/-! ### RefOf -/
theorem aRun6 (w : List UInt8) : ∀ r, (aRun 6 r w).1 = 6 := by
  induction w with
  | nil => intro r; rfl
  | cons c w ih =>
    intro r
    have h : aStep 6 r (c.toNat : Int) = (6, r) := by
      unfold aStep
      have : s205 6 (c.toNat : Int) = 6 := by unfold s205; simp
      simp [this]
    simp only [aRun, h]
    exact ih r
abbrev dg1 (c : Int) : Prop := 49 ≤ c ∧ c ≤ 57
abbrev dg0 (c : Int) : Prop := 48 ≤ c ∧ c ≤ 57
/-- The digits' part of a reference. -/
def refD (r : RefT) : List UInt8 → Option RefT
  | [d] => if dg1 (d.toNat : Int) then some { r with row := ((d.toNat : Int) - 48) - 1 } else none
  | [d, e] => if dg1 (d.toNat : Int) ∧ dg0 (e.toNat : Int) then some { r with row := ((d.toNat : Int) - 48) * 10 + ((e.toNat : Int) - 48) - 1 } else none
  | _ => none
theorem refD_1 (r : RefT) (d : UInt8) : refD r [d] = if dg1 (d.toNat : Int) then some { r with row := ((d.toNat : Int) - 48) - 1 } else none := rfl
theorem refD_2 (r : RefT) (d e : UInt8) : refD r [d, e] = if dg1 (d.toNat : Int) ∧ dg0 (e.toNat : Int) then some { r with row := ((d.toNat : Int) - 48) * 10 + ((e.toNat : Int) - 48) - 1 } else none := rfl
def acc (a : Int × RefT) : Option RefT := if a.1 = 4 ∨ a.1 = 5 then some { a.2 with row := a.2.row - 1 } else none
theorem acc6 {a : Int × RefT} (h : a.1 = 6) : acc a = none := by unfold acc; rw [if_neg (by omega)]
theorem s205_3 (q c : Int) (h : q = 3 ∨ (q = 2 ∧ c ≠ 36)) : s205 q c = if 49 ≤ c ∧ c ≤ 57 then 4 else 6 := by
  unfold s205
  repeat' split
  all_goals omega
theorem s205_4 (c : Int) : s205 4 c = if 48 ≤ c ∧ c ≤ 57 then 5 else 6 := by
  unfold s205
  repeat' split
  all_goals omega
theorem s205_5 (c : Int) : s205 5 c = 6 := by
  unfold s205
  repeat' split
  all_goals omega
theorem s205_2d : s205 2 36 = 3 := by unfold s205; decide
theorem s205_01 (q c : Int) (h : q = 1 ∨ (q = 0 ∧ c ≠ 36)) : s205 q c = if 65 ≤ c ∧ c ≤ 90 then 2 else 6 := by
  unfold s205
  repeat' split
  all_goals omega
theorem s205_0d : s205 0 36 = 1 := by unfold s205; decide
theorem acc_digits (q : Int) (r : RefT) (u : List UInt8) (hr : r.row = 0) (h : q = 3 ∨ (q = 2 ∧ ∀ c, u.head? = some c → (c.toNat : Int) ≠ 36)) : acc (aRun q r u) = refD r u := by
  cases u with
  | nil =>
    show acc (q, r) = none
    unfold acc
    rw [if_neg (by rcases h with h | ⟨h, _⟩ <;> simp only <;> omega)]
  | cons d u =>
    have h1 : s205 q (d.toNat : Int) = if 49 ≤ (d.toNat : Int) ∧ (d.toNat : Int) ≤ 57 then 4 else 6 := s205_3 _ _ (by
      rcases h with h | ⟨h, h2⟩
      · exact .inl h
      · exact .inr ⟨h, h2 d rfl⟩)
    by_cases hd : 49 ≤ (d.toNat : Int) ∧ (d.toNat : Int) ≤ 57
    · rw [if_pos hd] at h1
      have hs : aStep q r (d.toNat : Int) = (4, { r with row := (d.toNat : Int) - 48 }) := by
        unfold aStep; simp [h1, hr]
      simp only [aRun, hs]
      cases u with
      | nil => simp [aRun, acc, refD, dg1, hd]
      | cons e u =>
        have h2 := s205_4 (e.toNat : Int)
        by_cases he : 48 ≤ (e.toNat : Int) ∧ (e.toNat : Int) ≤ 57
        · rw [if_pos he] at h2
          have hs2 : aStep 4 { r with row := (d.toNat : Int) - 48 } (e.toNat : Int) = (5, { r with row := ((d.toNat : Int) - 48) * 10 + ((e.toNat : Int) - 48) }) := by
            unfold aStep; simp [h2]
          simp only [aRun, hs2]
          cases u with
          | nil => simp [aRun, acc, refD, dg1, dg0, hd, he]
          | cons f u =>
            have hs3 : aStep 5 { r with row := ((d.toNat : Int) - 48) * 10 + ((e.toNat : Int) - 48) } (f.toNat : Int) = (6, { r with row := ((d.toNat : Int) - 48) * 10 + ((e.toNat : Int) - 48) }) := by
              unfold aStep; simp [s205_5]
            simp only [aRun, hs3]
            rw [acc6 (aRun6 _ _)]
            rfl
        · rw [if_neg he] at h2
          have hs2 : (aStep 4 { r with row := (d.toNat : Int) - 48 } (e.toNat : Int)).1 = 6 := by unfold aStep; simp [h2]
          simp only [aRun, hs2]
          rw [acc6 (aRun6 _ _)]
          cases u with
          | nil => rw [refD_2, if_neg (fun hh => he hh.2)]
          | cons f u => rfl
    · rw [if_neg hd] at h1
      have hs : (aStep q r (d.toNat : Int)).1 = 6 := by unfold aStep; simp [h1]
      simp only [aRun, hs]
      rw [acc6 (aRun6 _ _)]
      cases u with
      | nil => rw [refD_1, if_neg (show ¬ dg1 (d.toNat : Int) from hd)]
      | cons e u =>
        cases u with
        | nil => rw [refD_2, if_neg (fun hh : dg1 (d.toNat : Int) ∧ _ => hd hh.1)]
        | cons f u => rfl
/-- The letter's part of a reference. -/
def refL (r : RefT) : List UInt8 → Option RefT
  | [] => none
  | c :: u => if 65 ≤ (c.toNat : Int) ∧ (c.toNat : Int) ≤ 90 then
      match u with
      | [] => none
      | d :: v => if (d.toNat : Int) = 36 then refD { r with col := (c.toNat : Int) - 65, ar := true } v else refD { r with col := (c.toNat : Int) - 65 } u
    else none
theorem refL_no (r : RefT) (c : UInt8) (u : List UInt8) (h : ¬ (65 ≤ (c.toNat : Int) ∧ (c.toNat : Int) ≤ 90)) : refL r (c :: u) = none := by simp only [refL, if_neg h]
theorem refL_1 (r : RefT) (c : UInt8) : refL r [c] = none := by simp [refL]
theorem refL_2 (r : RefT) (c d : UInt8) (v : List UInt8) (h : 65 ≤ (c.toNat : Int) ∧ (c.toNat : Int) ≤ 90) : refL r (c :: d :: v) = if (d.toNat : Int) = 36 then refD { r with col := (c.toNat : Int) - 65, ar := true } v else refD { r with col := (c.toNat : Int) - 65 } (d :: v) := by
  show (if _ then _ else _) = _
  rw [if_pos h]
theorem acc_letter (q : Int) (r : RefT) (u : List UInt8) (hr : r.row = 0) (h : q = 1 ∨ (q = 0 ∧ ∀ c, u.head? = some c → (c.toNat : Int) ≠ 36)) : acc (aRun q r u) = refL r u := by
  cases u with
  | nil =>
    show acc (q, r) = none
    unfold acc
    rw [if_neg (by rcases h with h | ⟨h, _⟩ <;> simp only <;> omega)]
  | cons c u =>
    have h1 : s205 q (c.toNat : Int) = if 65 ≤ (c.toNat : Int) ∧ (c.toNat : Int) ≤ 90 then 2 else 6 := s205_01 _ _ (by
      rcases h with h | ⟨h, h2⟩
      · exact .inl h
      · exact .inr ⟨h, h2 c rfl⟩)
    by_cases hc : 65 ≤ (c.toNat : Int) ∧ (c.toNat : Int) ≤ 90
    · rw [if_pos hc] at h1
      have hs : aStep q r (c.toNat : Int) = (2, { r with col := (c.toNat : Int) - 65 }) := by unfold aStep; simp [h1]
      simp only [aRun, hs, refL, if_pos hc]
      cases u with
      | nil => simp [aRun, acc]
      | cons d v =>
        by_cases hd : (d.toNat : Int) = 36
        · have hs2 : aStep 2 { r with col := (c.toNat : Int) - 65 } (d.toNat : Int) = (3, { r with col := (c.toNat : Int) - 65, ar := true }) := by
            unfold aStep; rw [hd]; simp [s205_2d]
          simp only [aRun, hs2, if_pos hd]
          exact acc_digits 3 _ v hr (.inl rfl)
        · simp only [if_neg hd]
          exact acc_digits 2 _ (d :: v) hr (.inr ⟨rfl, fun c hc => by simp at hc; rw [← hc]; exact hd⟩)
    · rw [if_neg hc] at h1
      have hs : (aStep q r (c.toNat : Int)).1 = 6 := by unfold aStep; simp [h1]
      simp only [aRun, hs, refL, if_neg hc]
      exact acc6 (aRun6 _ _)
theorem refOf_eq (w : List UInt8) : refOf w = match w with
    | [] => none
    | c :: u => if (c.toNat : Int) = 36 then refL { dRef with ac := true } u else refL dRef w := by
  show acc (aRun 0 dRef w) = _
  cases w with
  | nil => rfl
  | cons c u =>
    simp only
    by_cases hc : (c.toNat : Int) = 36
    · rw [if_pos hc]
      have hs : aStep 0 dRef (c.toNat : Int) = (1, { dRef with ac := true }) := by unfold aStep; rw [hc]; simp [s205_0d]
      simp only [aRun, hs]
      exact acc_letter 1 _ u rfl (.inl rfl)
    · rw [if_neg hc]
      exact acc_letter 0 dRef (c :: u) rfl (.inr ⟨rfl, fun d hd => by simp at hd; rw [← hd]; exact hc⟩)
def outR (o : Option RefT) : RefT × Bool := match o with | some r => (r, true) | none => (dRef, false)
theorem getD_drop {w : List UInt8} {x k : Nat} : w.getD (x + k) 0 = (w.drop x).getD k 0 := by
  simp [List.getD_eq_getElem?_getD, List.getElem?_drop]
theorem l243_0 (n : Nat) (w : List UInt8) (r : RefT) (m : Nat) (x : Nat) (v : Int) (hv : 0 ≤ v ∧ v ≤ 1000) (hx : x = w.length) : l243_7 n w r (m + 1) x v = some ({ r with row := v - 1 }, true) := by
  show l243_7_st n w r (l243_7 n w r m) x v = _
  unfold l243_7_st
  rw [if_neg (by omega), ckF (by constructor <;> omega)]
theorem l243_s (n : Nat) (w : List UInt8) (r : RefT) (m : Nat) (x : Nat) (v : Int) (hw : w.length ≤ 1100) (hv : 0 ≤ v ∧ v ≤ 90) (hx : x < w.length) : l243_7 n w r (m + 1) x v = if dg0 (bt w x) then l243_7 n w r m ((x + 1 : Nat) : Int) (v * 10 + (bt w x - 48)) else some (dRef, false) := by
  show l243_7_st n w r (l243_7 n w r m) x v = _
  unfold l243_7_st
  simp only [bt_eq]
  rw [if_pos (by omega), ckF (by omega)]
  by_cases h1 : bt w x < 48
  · rw [if_pos h1, if_neg (by unfold dg0; omega)]; rfl
  · rw [if_neg h1]
    by_cases h2 : 57 < bt w x
    · rw [if_pos h2, if_neg (by unfold dg0; omega)]; rfl
    · rw [if_neg h2, if_pos (by unfold dg0; omega), ckF (by constructor <;> omega), ckF (by omega), ckF (by constructor <;> omega), ckF (by constructor <;> omega), ckF (by constructor <;> omega)]
      rfl
theorem k243_8_ok {n : Nat} {w : List UInt8} {x : Nat} {r : RefT} (hw : w.length ≤ 1100) (hn : 3 ≤ n) (hx : x ≤ w.length) : k243_8 n w x r = some (outR (refD r (w.drop x))) := by
  have hlen : (w.drop x).length = w.length - x := by simp
  unfold k243_8
  rw [ckF (by constructor <;> omega)]
  obtain ⟨n, rfl⟩ : ∃ n', n = n' + 3 := ⟨n - 3, by omega⟩
  have hb0 : bt w x = (((w.drop x).getD 0 0).toNat : Int) := by unfold bt; rw [← getD_drop]; rfl
  have hb1 : bt w (x + 1) = (((w.drop x).getD 1 0).toNat : Int) := by unfold bt; rw [← getD_drop]
  generalize hu : w.drop x = u at *
  match u with
  | [] =>
    simp only [List.length_nil] at hlen
    rw [if_pos (by omega)]; rfl
  | [d] =>
    simp only [List.length_cons, List.length_nil] at hlen
    simp only [List.getD_cons_zero] at hb0
    rw [if_neg (by omega), if_neg (by omega), ckF (by omega)]
    simp only [bt_eq, hb0]
    rw [refD_1]
    by_cases h1 : (d.toNat : Int) < 49
    · rw [if_pos h1, if_neg (by unfold dg1; omega)]; rfl
    · rw [if_neg h1]
      by_cases h2 : 57 < (d.toNat : Int)
      · rw [if_pos h2, if_neg (by unfold dg1; omega)]; rfl
      · rw [if_neg h2, if_pos (show dg1 (d.toNat : Int) by unfold dg1; omega), l243_s _ _ _ _ _ _ hw (by omega) (by omega), if_pos (by unfold dg0; omega), l243_0 _ _ _ _ _ _ (by omega) (by omega)]
        rw [hb0]
        simp [outR]
  | [d, e] =>
    simp only [List.length_cons, List.length_nil] at hlen
    simp only [List.getD_cons_zero, List.getD_cons_succ] at hb0 hb1
    rw [if_neg (by omega), if_neg (by omega), ckF (by omega)]
    simp only [bt_eq, hb0]
    rw [refD_2]
    by_cases h1 : (d.toNat : Int) < 49
    · rw [if_pos h1, if_neg (by unfold dg1; omega)]; rfl
    · rw [if_neg h1]
      by_cases h2 : 57 < (d.toNat : Int)
      · rw [if_pos h2, if_neg (by unfold dg1; omega)]; rfl
      · rw [if_neg h2, l243_s _ _ _ _ _ _ hw (by omega) (by omega), if_pos (by unfold dg0; omega), l243_s _ _ _ _ _ _ hw (by omega) (by omega)]
        rw [hb0, hb1]
        by_cases h3 : dg0 (e.toNat : Int)
        · have h3' := h3
          unfold dg0 at h3'
          rw [if_pos h3, if_pos (show dg1 (d.toNat : Int) ∧ dg0 (e.toNat : Int) from ⟨by unfold dg1; omega, h3⟩), l243_0 _ _ _ _ _ _ (by omega) (by omega)]
          simp [outR]
        · rw [if_neg h3, if_neg (fun hh => h3 hh.2)]; rfl
  | d :: e :: f :: u =>
    simp only [List.length_cons] at hlen
    rw [if_neg (by omega), if_pos (by omega)]; rfl
theorem k243_9_ok {n : Nat} {w : List UInt8} {x : Nat} {r : RefT} (hw : w.length ≤ 1100) (hn : 3 ≤ n) (hx : x ≤ w.length) : k243_9 n w x r = some (outR (refL r (w.drop x))) := by
  have hlen : (w.drop x).length = w.length - x := by simp
  unfold k243_9
  have hb0 : bt w x = (((w.drop x).getD 0 0).toNat : Int) := by unfold bt; rw [← getD_drop]; rfl
  have hb1 : bt w (x + 1) = (((w.drop x).getD 1 0).toNat : Int) := by unfold bt; rw [← getD_drop]
  have k1 : ∀ r, x + 1 ≤ w.length → k243_8 n w ((x : Int) + 1) r = some (outR (refD r (w.drop (x + 1)))) := fun r h => by rw [show ((x : Int) + 1) = ((x + 1 : Nat) : Int) by omega]; exact k243_8_ok hw hn h
  have k2 : ∀ r, x + 2 ≤ w.length → k243_8 n w ((x : Int) + 1 + 1) r = some (outR (refD r (w.drop (x + 2)))) := fun r h => by rw [show ((x : Int) + 1 + 1) = ((x + 2 : Nat) : Int) by omega]; exact k243_8_ok hw hn h
  have d1 : w.drop (x + 1) = (w.drop x).drop 1 := by rw [List.drop_drop]
  have d2 : w.drop (x + 2) = (w.drop x).drop 2 := by rw [List.drop_drop]
  simp only [show ((x : Int) + 1) = ((x + 1 : Nat) : Int) by omega, bt_eq] at *
  rw [d1] at k1
  rw [d2] at k2
  generalize hu : w.drop x = u at *
  cases u with
  | nil =>
    simp only [List.length_nil] at hlen
    rw [if_pos (by omega)]; rfl
  | cons c u =>
    simp only [List.length_cons] at hlen
    simp only [List.getD_cons_zero, List.getD_cons_succ, List.drop_succ_cons, List.drop_zero] at hb0 hb1 k1 k2
    rw [if_neg (by omega), ckF (by omega)]
    rw [hb0]
    by_cases h1 : (c.toNat : Int) < 65
    · rw [if_pos h1, refL_no _ _ _ (by omega)]; rfl
    · rw [if_neg h1]
      by_cases h2 : 90 < (c.toNat : Int)
      · rw [if_pos h2, refL_no _ _ _ (by omega)]; rfl
      · rw [if_neg h2, ckF (by omega), ckF (by constructor <;> omega), ckF (by constructor <;> omega)]
        cases u with
        | nil =>
          simp only [List.length_nil] at hlen
          rw [if_neg (by omega), k1 _ (by omega), refL_1]
          rfl
        | cons d v =>
          simp only [List.length_cons] at hlen
          simp only [List.getD_cons_zero, List.drop_succ_cons, List.drop_zero] at hb1 k1 k2
          rw [if_pos (by omega), ckF (by omega)]
          rw [hb1, refL_2 _ _ _ _ (by omega)]
          by_cases hd : (d.toNat : Int) = 36
          · rw [if_pos hd, if_pos hd, ckF (by constructor <;> omega), k2 _ (by omega)]
          · rw [if_neg hd, if_neg hd, k1 _ (by omega)]
theorem s243_ok {n : Nat} {w : List UInt8} (hw : w.length ≤ 1100) (hn : 3 ≤ n) : s243 n w = some (outR (refOf w)) := by
  rw [refOf_eq]
  unfold s243
  cases w with
  | nil =>
    rw [if_neg (by simp)]
    exact k243_9_ok (x := 0) hw hn (by simp)
  | cons c u =>
    rw [if_pos (by simp), ckF (by simp)]
    simp only [Int.toNat_zero, List.getD_cons_zero]
    by_cases hc : (c.toNat : Int) = 36
    · rw [if_pos hc, if_pos hc]
      have := k243_9_ok (n := n) (w := c :: u) (x := 1) (r := ⟨0, 0, true, false⟩) hw hn (by simp)
      exact this
    · rw [if_neg hc, if_neg hc]
      exact k243_9_ok (x := 0) hw hn (by simp)

theorem bind_eta {α β : Type} (o : Option (α × β)) : (o.bind fun r => some (r.1, r.2)) = o := by cases o <;> rfl
def numNode (v : Int) : NodeT := ⟨1, 0, -1, -1, v, dRef, dRef⟩
theorem l231_ok (n : Nat) (r : RDS × Int) (j : Nat) (ej : r.1.i = j) (hs : r.1.s.length ≤ 1100) : ∀ (m i : Nat) (v : Int), r.1.s.length - i < m → j ≤ i → i ≤ r.1.s.length → Dg ((i : Int) - j) v →
    l231_1 n r m v { r.1 with i := i } = if ((digRun r.1.s j i v).1 : Int) - j > 9 then some (s146 { r.1 with i := (digRun r.1.s j i v).1 } 4 j) else s188 { r.1 with i := (digRun r.1.s j i v).1 } (numNode (digRun r.1.s j i v).2) := by
  intro m
  induction m with
  | zero => intro i v h; omega
  | succ m ih =>
    intro i v hm hj hi hv
    show l231_1_st n r (l231_1 n r m) v { r.1 with i := i } = _
    unfold l231_1_st
    simp only [bt_eq, ej, bind_eta]
    have hok : i64ok ((i : Int) - j) := by constructor <;> omega
    simp only [ckF hok]
    have fin : ¬ (i < r.1.s.length ∧ s163 (bt r.1.s i) = true) → (if (9 : Int) < (i : Int) - j then some ((s146 { r.1 with i := i } 4 j).1, (s146 { r.1 with i := i } 4 j).2) else s188 { r.1 with i := i } (numNode v)) = if ((digRun r.1.s j i v).1 : Int) - j > 9 then some (s146 { r.1 with i := (digRun r.1.s j i v).1 } 4 j) else s188 { r.1 with i := (digRun r.1.s j i v).1 } (numNode (digRun r.1.s j i v).2) := by
      intro h
      rw [digRun_eq, dif_neg h]
    by_cases h1 : i < r.1.s.length
    · rw [if_pos (by omega), ckF (by omega)]
      by_cases h2 : s163 (bt r.1.s i) = true
      · have hd := (s163_iff _).1 h2
        have hb := hv.any
        rw [if_pos (by omega), if_pos (by omega)]
        rw [digRun_eq, dif_pos ⟨h1, h2⟩]
        by_cases h9 : (i : Int) - j < 9
        · rw [if_pos h9, if_pos h9, ckF (by constructor <;> omega), ckF (by omega), ckF (by constructor <;> omega), ckF (by constructor <;> omega)]
          unfold k231_0
          rw [ckF (by constructor <;> simp only <;> omega)]
          exact ih (i + 1) (v * 10 + (bt r.1.s i - 48)) (by omega) (by omega) (by omega) (by
            have := hv.step (by omega) h9 (d := bt r.1.s i - 48) (by omega)
            rw [show ((i + 1 : Nat) : Int) - j = (i : Int) - j + 1 by omega]
            exact this)
        · rw [if_neg h9, if_neg h9]
          unfold k231_0
          rw [ckF (by constructor <;> simp only <;> omega)]
          exact ih (i + 1) v (by omega) (by omega) (by omega) (by
            have := hv.more (by omega)
            rw [show ((i + 1 : Nat) : Int) - j = (i : Int) - j + 1 by omega]
            exact this)
      · have hd : ¬ (48 ≤ bt r.1.s i ∧ bt r.1.s i ≤ 57) := fun h => h2 ((s163_iff _).2 h)
        by_cases h3 : 48 ≤ bt r.1.s i
        · rw [if_pos h3, if_neg (by omega)]
          exact fin (fun h => h2 h.2)
        · rw [if_neg h3]
          exact fin (fun h => h2 h.2)
    · rw [if_neg (by omega)]
      exact fin (fun h => h1 h.1)
end Go.Proofs.Qxb6500272aGreat
