/-
  Plain laws, the graph: counting, what hangs on a cell, the highest level.
-/
import Derived.Test.Qxb6500272aGreatG0
namespace Go.Proofs.Qxb6500272aGreat
open Go
set_option linter.unusedVariables false
set_option linter.unusedSimpArgs false
theorem countP_lt {p q : Nat → Bool} : ∀ {l : List Nat}, (∀ j ∈ l, p j = true → q j = true) → (∃ d ∈ l, q d = true ∧ p d = false) → l.countP p < l.countP q := by
  intro l
  induction l with
  | nil => intro _ ⟨d, h, _⟩; cases h
  | cons x l ih =>
    intro h1 ⟨d, h2, h3, h4⟩
    have hle : l.countP p ≤ l.countP q := List.countP_mono_left (fun j hj => h1 j (List.mem_cons_of_mem _ hj))
    rw [List.countP_cons, List.countP_cons]
    rcases List.mem_cons.1 h2 with h | h
    · subst h
      rw [if_neg (by simp [h4]), if_pos h3]
      omega
    · have := ih (fun j hj => h1 j (List.mem_cons_of_mem _ hj)) ⟨d, h, h3, h4⟩
      have hx := h1 x (List.mem_cons_self ..)
      cases hp : p x
      · rw [if_neg (by decide)]
        omega
      · rw [hx hp]
        omega
theorem countP_one {p q : Nat → Bool} {d : Nat} : ∀ {l : List Nat}, l.Nodup → d ∈ l → p d = true → q d = false → (∀ j ∈ l, j ≠ d → p j = q j) → l.countP p = l.countP q + 1 := by
  intro l
  induction l with
  | nil => intro _ h; cases h
  | cons x l ih =>
    intro hn hd hp hq h
    rw [List.countP_cons, List.countP_cons]
    rw [List.nodup_cons] at hn
    rcases List.mem_cons.1 hd with h' | h'
    · subst h'
      rw [if_pos hp, if_neg (by simp [hq])]
      have : l.countP p = l.countP q := by
        apply List.countP_congr
        intro j hj
        rw [h j (List.mem_cons_of_mem _ hj) (fun e => by subst e; exact hn.1 hj)]
      omega
    · have := ih hn.2 h' hp hq (fun j hj => h j (List.mem_cons_of_mem _ hj))
      have hxd : x ≠ d := fun e => by subst e; exact hn.1 h'
      rw [h x (List.mem_cons_self ..) hxd]
      omega
/-- How many cells a set holds. -/
def cnt (s : BitVec 32) : Nat := (els s).length
theorem cnt_eq (s : BitVec 32) : cnt s = (List.range 24).countP fun j => s.getLsbD j := by
  unfold cnt els
  rw [List.countP_eq_length_filter]
theorem cnt_le (s : BitVec 32) : cnt s ≤ 24 := els_len s
theorem cnt_lt {s t : BitVec 32} (h : ∀ j, j < 24 → s.getLsbD j = true → t.getLsbD j = true) {d : Nat} (hd : d < 24) (h1 : t.getLsbD d = true) (h2 : s.getLsbD d = false) : cnt s < cnt t := by
  rw [cnt_eq, cnt_eq]
  exact countP_lt (fun j hj => h j (List.mem_range.1 hj)) ⟨d, List.mem_range.2 hd, h1, h2⟩
theorem cnt_one {s t : BitVec 32} {d : Nat} (hd : d < 24) (h1 : t.getLsbD d = true) (h2 : s.getLsbD d = false) (h : ∀ j, j < 24 → j ≠ d → t.getLsbD j = s.getLsbD j) : cnt t = cnt s + 1 := by
  rw [cnt_eq, cnt_eq]
  exact countP_one List.nodup_range (List.mem_range.2 hd) h1 h2 (fun j hj => h j (List.mem_range.1 hj))
theorem cnt_congr {s t : BitVec 32} (h : ∀ j, j < 24 → t.getLsbD j = s.getLsbD j) : cnt t = cnt s := by
  rw [cnt_eq, cnt_eq]
  exact List.countP_congr (fun j hj => by rw [h j (List.mem_range.1 hj)])
theorem cnt_0 {s : BitVec 32} : cnt s = 0 ↔ ∀ j, j < 24 → s.getLsbD j = false := by
  rw [cnt_eq, List.countP_eq_zero]
  constructor
  · intro h j hj
    have := h j (List.mem_range.2 hj)
    simpa using this
  · intro h j hj
    rw [h j (List.mem_range.1 hj)]; decide
theorem zero24 {s : BitVec 32} (h : In24 s) : (s.toNat : Int) = 0 ↔ ∀ j, j < 24 → s.getLsbD j = false := by
  rw [bv_zero]
  constructor
  · intro h' j hj; exact h' j (by omega)
  · intro h' j hj
    rcases Nat.lt_or_ge j 24 with hh | hh
    · exact h' j hh
    · exact h j hh
theorem in24_and {s t : BitVec 32} (h1 : In24 s) : In24 (s &&& t) := fun j hj => by rw [BitVec.getLsbD_and, h1 j hj]; rfl
theorem in24_and2 {s t : BitVec 32} (h1 : In24 t) : In24 (s &&& t) := fun j hj => by rw [BitVec.getLsbD_and, h1 j hj]; simp
theorem bnot {s : BitVec 32} {j : Nat} (hj : j < 24) : (~~~s).getLsbD j = !s.getLsbD j := by
  rw [BitVec.getLsbD_not, decide_eq_true (by omega), Bool.true_and]
theorem bone {c j : Nat} (hc : c < 24) : ((1 : BitVec 32) <<< c).getLsbD j = decide (j = c) := by
  have := s92_bit hc j
  unfold s92 at this
  rw [if_neg (by omega), if_neg (by omega), Int.toNat_natCast] at this
  exact this
theorem s128_ok {c : Nat} (hc : c < 24) : s128 (c : Int) = some ((1 : BitVec 32) <<< c) := by
  unfold s128
  rw [ckF (by omega), ckF (by omega), Int.toNat_natCast]
theorem ball {s : BitVec 32} (h : In24 s) : s &&& (16777215 : BitVec 32) = s := by
  apply BitVec.eq_of_getLsbD_eq
  intro j hj
  rw [BitVec.getLsbD_and, mall j hj]
  by_cases h24 : j < 24
  · simp [h24]
  · rw [h j (by omega)]; rfl
/-! ### Tables -/
def rdb (l : List (BitVec 32)) (c d : Nat) : Bool := (l.getD c 0).getLsbD d
def All24 (l : List (BitVec 32)) : Prop := l.length = 24 ∧ ∀ x ∈ l, In24 x
theorem All24.at {l : List (BitVec 32)} (h : All24 l) (c : Nat) : In24 (l.getD c 0) := by
  rw [List.getD_eq_getElem?_getD]
  cases hx : l[c]? with
  | none => exact in24_0
  | some x => exact h.2 x (List.mem_of_getElem? hx)
theorem All24.set {l : List (BitVec 32)} (h : All24 l) {c : Nat} {x : BitVec 32} (hx : In24 x) : All24 (l.set c x) := by
  refine ⟨by rw [List.length_set]; exact h.1, fun y hy => ?_⟩
  rcases List.mem_or_eq_of_mem_set hy with hy | hy
  · exact h.2 y hy
  · rw [hy]; exact hx
theorem getNd2 {α : Type} {l : List α} {k d : Nat} (z : α) (hl : l.length = k) (hd : d < k) : getN l k (d : Int) = some (l.getD d z) := by
  refine getT (by omega) (by omega) ?_
  rw [Int.toNat_natCast, List.getElem?_eq_getElem (by omega), List.getD_eq_getElem?_getD, List.getElem?_eq_getElem (by omega)]
  rfl
theorem getD_set {α : Type} {l : List α} {c : Nat} (x z : α) (hc : c < l.length) (j : Nat) : (l.set c x).getD j z = if j = c then x else l.getD j z := by
  rw [List.getD_eq_getElem?_getD, List.getD_eq_getElem?_getD]
  by_cases h : j = c
  · subst h
    rw [List.getElem?_set_self hc, if_pos rfl]; rfl
  · rw [List.getElem?_set_ne (fun e => h e.symm), if_neg h]
/-! ### Hang -/
def HangInv (rb : List (BitVec 32)) (z set todo : BitVec 32) : Prop :=
  In24 set ∧ In24 todo ∧ (∀ j, j < 24 → todo.getLsbD j = true → set.getLsbD j = true) ∧ (∀ j, j < 24 → z.getLsbD j = true → set.getLsbD j = true) ∧
  (∀ d, d < 24 → set.getLsbD d = true → todo.getLsbD d = false → ∀ j, j < 24 → rdb rb d j = true → set.getLsbD j = true)
theorem l109_ok (n : Nat) (S : GS) (hr : All24 S.readBy) (z : BitVec 32) : ∀ (m g : Nat) (set todo : BitVec 32), 24 - cnt (set &&& ~~~todo) ≤ m → m < g → HangInv S.readBy z set todo → ∃ h, l109_0 n S g set todo = some h ∧ HangInv S.readBy z h 0 := by
  intro m
  induction m with
  | zero =>
    intro g set todo h1 h2 hi
    obtain ⟨g, rfl⟩ : ∃ g', g = g' + 1 := ⟨g - 1, by omega⟩
    have h24 : cnt (set &&& ~~~todo) = 24 := by have := cnt_le (set &&& ~~~todo); omega
    have h0 : (todo.toNat : Int) = 0 := by
      rw [zero24 hi.2.1]
      intro j hj
      have hall : ∀ j, j < 24 → (set &&& ~~~todo).getLsbD j = true := by
        intro j hj
        cases hx : (set &&& ~~~todo).getLsbD j with
        | true => rfl
        | false =>
          exfalso
          have := cnt_lt (s := set &&& ~~~todo) (t := (16777215 : BitVec 32)) (fun j hj _ => by rw [mall j (by omega)]; simpa using hj) hj (by rw [mall j (by omega)]; simpa using hj) hx
          have := cnt_le (16777215 : BitVec 32)
          omega
      have := hall j hj
      rw [BitVec.getLsbD_and, bnot hj, Bool.and_eq_true] at this
      simpa using this.2
    refine ⟨set, ?_, ?_⟩
    · show l109_0_st n S (l109_0 n S g) set todo = _
      unfold l109_0_st
      rw [if_pos h0]
    · have : todo = 0 := BitVec.eq_of_toNat_eq (by simpa using h0)
      subst this
      exact hi
  | succ m ih =>
    intro g set todo h1 h2 hi
    obtain ⟨g, rfl⟩ : ∃ g', g = g' + 1 := ⟨g - 1, by omega⟩
    obtain ⟨i1, i2, i3, i4, i5⟩ := hi
    show ∃ h, l109_0_st n S (l109_0 n S g) set todo = some h ∧ _
    unfold l109_0_st
    by_cases h0 : (todo.toNat : Int) = 0
    · rw [if_pos h0]
      have : todo = 0 := BitVec.eq_of_toNat_eq (by simpa using h0)
      subst this
      exact ⟨set, rfl, i1, i2, i3, i4, i5⟩
    · rw [if_neg h0]
      obtain ⟨d, hd, e1, hb, _, a1, a2⟩ := els_cons i2 h0
      rw [bindT e1, bindT (getNd2 0 hr.1 hd)]
      have hrd := hr.at d
      generalize hR : S.readBy.getD d 0 = R at *
      have o1 : ∀ j, j < 24 → (set ||| (R &&& ~~~set)).getLsbD j = (set.getLsbD j || R.getLsbD j) := by
        intro j hj
        rw [BitVec.getLsbD_or, BitVec.getLsbD_and, bnot hj]
        cases set.getLsbD j <;> cases R.getLsbD j <;> rfl
      have o2 : ∀ j, j < 24 → ((todo &&& (todo - 1)) ||| (R &&& ~~~set)).getLsbD j = ((todo.getLsbD j && decide (j ≠ d)) || (R.getLsbD j && !set.getLsbD j)) := by
        intro j hj
        rw [BitVec.getLsbD_or, a2, BitVec.getLsbD_and, bnot hj]
      refine ih g _ _ ?_ (by omega) ⟨in24_or i1 (in24_and hrd), in24_or a1 (in24_and hrd), ?_, ?_, ?_⟩
      · have hlt : cnt (set &&& ~~~todo) < cnt ((set ||| (R &&& ~~~set)) &&& ~~~((todo &&& (todo - 1)) ||| (R &&& ~~~set))) := by
          refine cnt_lt (d := d) ?_ hd ?_ ?_
          · intro j hj h
            rw [BitVec.getLsbD_and, bnot hj, Bool.and_eq_true] at h
            rw [BitVec.getLsbD_and, bnot hj, o1 j hj, o2 j hj, h.1]
            have := h.2
            cases htj : todo.getLsbD j
            · simp
            · rw [htj] at this; cases this
          · rw [BitVec.getLsbD_and, bnot hd, o1 d hd, o2 d hd, i3 d hd hb]
            simp
          · rw [BitVec.getLsbD_and, bnot hd, hb]; simp
        omega
      · intro j hj h
        rw [o1 j hj]
        rw [o2 j hj] at h
        have := i3 j hj
        cases hs : set.getLsbD j
        · rw [hs] at h this
          cases htj : todo.getLsbD j
          · rw [htj] at h; simpa using h
          · exact absurd (this htj) (by decide)
        · rfl
      · intro j hj h
        rw [o1 j hj, i4 j hj h]; rfl
      · intro e he h3 h4 j hj h5
        rw [o1 e he] at h3
        rw [o2 e he] at h4
        rw [o1 j hj]
        by_cases hed : e = d
        · subst hed
          have : R.getLsbD j = true := by rw [← hR]; exact h5
          rw [this, Bool.or_true]
        · simp only [hed, ne_eq, not_false_eq_true, decide_true, Bool.and_true, Bool.or_eq_false_iff] at h4
          have hse : set.getLsbD e = true := by
            cases hs : set.getLsbD e
            · rw [hs] at h3 h4
              rw [Bool.false_or] at h3
              rw [h3] at h4
              exact absurd h4.2 (by decide)
            · rfl
          rw [i5 e he hse h4.1 j hj h5]; rfl
theorem s109_ok {n : Nat} (hn : 1000 ≤ n) (S : GS) (hr : All24 S.readBy) {z : BitVec 32} (hz : In24 z) : ∃ h, s109 n S z = some h ∧ In24 h ∧ (∀ j, j < 24 → z.getLsbD j = true → h.getLsbD j = true) ∧ (∀ d j, d < 24 → j < 24 → h.getLsbD d = true → rdb S.readBy d j = true → h.getLsbD j = true) := by
  unfold s109
  rw [ball hz]
  obtain ⟨h, e, i1, i2, i3, i4, i5⟩ := l109_ok n S hr z 24 n z z (by omega) (by omega) ⟨hz, hz, fun _ _ h => h, fun _ _ h => h, fun d hd h1 h2 => by rw [h1] at h2; cases h2⟩
  exact ⟨h, e, i1, i4, fun d j hd hj h1 h2 => i5 d hd h1 (by simp) j hj h2⟩
/-! ### The highest level -/
theorem l154_ok (n : Nat) (S : GS) (hl : S.level.length = 24) (B : Int) (hB : B ≤ 1000) : ∀ (g : Nat) (s : BitVec 32) (t : Int), In24 s → cnt s < g → (∀ d, d < 24 → s.getLsbD d = true → S.level.getD d 0 ≤ B ∧ -1 ≤ S.level.getD d 0) →
    ∃ t', l154_1 n S g t s = some t' ∧ t ≤ t' ∧ (∀ d, d < 24 → s.getLsbD d = true → S.level.getD d 0 < t') ∧ (t' = t ∨ ∃ d, d < 24 ∧ s.getLsbD d = true ∧ t' = S.level.getD d 0 + 1) := by
  intro g
  induction g with
  | zero => intro s t h1 h2; omega
  | succ g ih =>
    intro s t h1 h2 h3
    show ∃ t', l154_1_st n S (l154_1 n S g) t s = some t' ∧ _
    unfold l154_1_st
    by_cases h0 : (s.toNat : Int) = 0
    · rw [if_pos h0]
      refine ⟨t, rfl, Int.le_refl _, fun d hd hb => ?_, Or.inl rfl⟩
      rw [(zero24 h1).1 h0 d hd] at hb; cases hb
    · rw [if_neg h0]
      obtain ⟨d, hd, e1, hb, hc, a1, a2⟩ := els_cons h1 h0
      have hcn : cnt s = cnt (s &&& (s - 1)) + 1 := by unfold cnt; rw [hc]; rfl
      have h3' : ∀ e, e < 24 → (s &&& (s - 1)).getLsbD e = true → S.level.getD e 0 ≤ B ∧ -1 ≤ S.level.getD e 0 := by
        intro e he hbe
        rw [a2] at hbe
        exact h3 e he (by simpa using And.left (by simpa using hbe))
      have hLd := h3 d hd hb
      rw [bindT e1, bindT (getNd2 0 hl hd)]
      have back : ∀ (t1 t' : Int), S.level.getD d 0 < t1 → t ≤ t1 → (t1 = t ∨ t1 = S.level.getD d 0 + 1) → t1 ≤ t' → (∀ e, e < 24 → (s &&& (s - 1)).getLsbD e = true → S.level.getD e 0 < t') → (t' = t1 ∨ ∃ e, e < 24 ∧ (s &&& (s - 1)).getLsbD e = true ∧ t' = S.level.getD e 0 + 1) →
          t ≤ t' ∧ (∀ d, d < 24 → s.getLsbD d = true → S.level.getD d 0 < t') ∧ (t' = t ∨ ∃ d, d < 24 ∧ s.getLsbD d = true ∧ t' = S.level.getD d 0 + 1) := by
        intro t1 t' b1 b2 b3 b4 b5 b6
        refine ⟨by omega, fun e he hbe => ?_, ?_⟩
        · by_cases hed : e = d
          · subst hed; omega
          · exact b5 e he (by rw [a2, hbe]; simp [hed])
        · rcases b6 with b6 | ⟨e, c1, c2, c3⟩
          · rcases b3 with b3 | b3
            · exact Or.inl (by omega)
            · exact Or.inr ⟨d, hd, hb, by omega⟩
          · rw [a2] at c2
            exact Or.inr ⟨e, c1, by simpa using And.left (by simpa using c2), c3⟩
      by_cases ht : t ≤ S.level.getD d 0
      · rw [if_pos ht, ckF (by constructor <;> omega)]
        obtain ⟨t', f1, f2, f3, f4⟩ := ih (s &&& (s - 1)) (S.level.getD d 0 + 1) a1 (by omega) h3'
        exact ⟨t', f1, back _ _ (by omega) (by omega) (Or.inr rfl) f2 f3 f4⟩
      · rw [if_neg ht]
        obtain ⟨t', f1, f2, f3, f4⟩ := ih (s &&& (s - 1)) t a1 (by omega) h3'
        exact ⟨t', f1, back _ _ (by omega) (by omega) (Or.inl rfl) f2 f3 f4⟩
end Go.Proofs.Qxb6500272aGreat
