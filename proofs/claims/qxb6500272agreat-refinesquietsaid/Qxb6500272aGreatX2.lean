/-
  Plain laws, values: the folds on both sides.
-/
import Derived.Test.Qxb6500272aGreatX1
namespace Go.Proofs.Qxb6500272aGreat
open Go
set_option linter.unusedVariables false
set_option linter.unusedSimpArgs false
/-- A value as the program makes it. -/
structure VLw (x : ValT) : Prop where
  kind : 0 ≤ x.kind ∧ x.kind ≤ 4
  num : x.kind = 1 → -999999999 ≤ x.n ∧ x.n ≤ 999999999
  tru : x.kind = 3 → x.n = 0 ∨ x.n = 1
/-- A value that a cell may show. -/
def Okv (x : ValT) : Prop := s155 x = true
theorem Okv.lw {x : ValT} (h : Okv x) : VLw x := by
  unfold Okv s155 at h
  constructor
  · repeat' split at h
    all_goals first | omega | simp at h
  · intro hk
    repeat' split at h
    all_goals first | omega | simp at h
  · intro hk
    repeat' split at h
    all_goals first | omega | (left; assumption) | (right; assumption) | simp at h
theorem okv_num {n : Int} (h : -999999999 ≤ n ∧ n ≤ 999999999) : Okv (s200 n) := by
  unfold Okv s155 s200
  simp [h.1, h.2]
theorem okv_err {n : Int} (h : 1 ≤ n ∧ n ≤ 6) : Okv (s131 n) := by
  unfold Okv s155 s131
  simp [h.1, h.2]
theorem okv_tru (b : Bool) : Okv (s232 b) := by
  cases b <;> rfl
theorem okv_238 (n : Int) : Okv (s238 n) := by
  unfold s238
  split
  · exact okv_err (by decide)
  · split
    · exact okv_err (by decide)
    · exact okv_num (by omega)
theorem okv_0 : Okv ⟨0, 0, []⟩ := rfl
/-- The program's tally and the model's fold of the function f, behind k values. -/
structure FoldR (f : Int) (k : Nat) (T : TallyT) (F : FoldT) : Prop where
  bad : T.bad = F.bad
  okb : F.bad.kind = 4 → Okv F.bad
  count : T.count = F.count
  c0 : 0 ≤ F.count ∧ F.count ≤ k
  sum : -(F.count * 999999999) ≤ F.sum ∧ F.sum ≤ F.count * 999999999
  min : -999999999 ≤ F.min ∧ F.min ≤ 999999999
  max : -999999999 ≤ F.max ∧ F.max ≤ 999999999
  f1 : f = 1 → T.acc = F.sum
  f2 : f = 2 → T.acc = F.min
  f3 : f = 3 → T.acc = F.max
  f6 : f = 6 → ((T.acc = 1) ↔ F.all = false)
  f7 : f = 7 → ((T.acc = 1) ↔ F.some = true)
theorem foldR_0 (f : Int) : FoldR f 0 ⟨⟨0, 0, []⟩, 0, 0⟩ ⟨⟨0, 0, []⟩, 0, 0, 0, 0, true, false⟩ :=
  ⟨rfl, fun h => absurd h (by decide), rfl, by decide, by decide, by decide, by decide, fun _ => rfl, fun _ => rfl, fun _ => rfl, fun _ => by simp, fun _ => by simp⟩
theorem FoldR.le {f : Int} {k k' : Nat} {T : TallyT} {F : FoldT} (h : FoldR f k T F) (hk : k ≤ k') : FoldR f k' T F :=
  ⟨h.bad, h.okb, h.count, ⟨h.c0.1, by have := h.c0.2; omega⟩, h.sum, h.min, h.max, h.f1, h.f2, h.f3, h.f6, h.f7⟩
def IsTal (f : Int) : Prop := f = 1 ∨ f = 2 ∨ f = 3 ∨ f = 4 ∨ f = 6 ∨ f = 7
/-- What one more value makes of the program's tally. -/
def tak (f : Int) (T : TallyT) (v : ValT) (b : Bool) : TallyT :=
  if T.bad.kind = 4 then T else if v.kind = 4 then { T with bad := v }
  else if f = 6 ∨ f = 7 then (if v.kind = 3 then (if (decide (v.n = 1) == decide (f = 7)) = true then { T with acc := 1 } else T) else { T with bad := s131 5 })
  else if v.kind = 0 then T
  else if v.kind = 1 then
    { T with count := T.count + 1, acc := if f = 1 then T.acc + v.n else if f = 2 then (if T.count = 0 then v.n else if v.n < T.acc then v.n else T.acc) else if f = 3 then (if T.count = 0 then v.n else if T.acc < v.n then v.n else T.acc) else T.acc }
  else if b = true then T else { T with bad := s131 5 }
def fo (S : VS) (d : Nat) (T : TallyT) : VS := { S with folds := S.folds.set d T }
theorem fo_self {S : VS} {d : Nat} {T : TallyT} (h : S.folds[d]? = some T) : fo S d T = S := by
  unfold fo
  rw [show S.folds.set d T = S.folds by
    apply List.ext_getElem?
    intro i
    rw [List.getElem?_set]
    split
    · rename_i hi
      subst hi
      rw [h, if_pos (List.getElem?_eq_some_iff.1 h).1]
    · rfl]
theorem fo_fo (S : VS) (d : Nat) (T T' : TallyT) : fo (fo S d T) d T' = fo S d T' := by
  unfold fo; simp only [List.set_set]
theorem fo_get {S : VS} {d : Nat} {T : TallyT} (h : d < S.folds.length) : (fo S d T).folds[d]? = some T := by
  show (S.folds.set d T)[d]? = _; simp [h]
theorem k223_ok {S S' : VS} {d : Nat} {T T0 : TallyT} (hd : S.deep = (d : Int) + 1) (h24 : d < 24) (hS' : S' = fo S d T) (h0 : S.folds[d]? = some T0) (hc : i64ok (T.count + 1)) : k223_1 S S' = some (fo S d { T with count := T.count + 1 }) := by
  subst hS'
  unfold k223_1
  rw [show S.deep - 1 = (d : Int) by omega]
  rw [bindT (getT (x := T) (by omega) (by omega) (by rw [Int.toNat_natCast]; exact fo_get (List.getElem?_eq_some_iff.1 h0).1)), ckF hc, Int.toNat_natCast]
  show some (fo (fo S d T) d _) = _
  rw [fo_fo]
theorem s223_ok {f : Int} {k : Nat} {T : TallyT} {F : FoldT} {v : ValT} (b : Bool) (hf : IsTal f) (h : FoldR f k T F) (hk : k ≤ 1000000) (hv : VLw v) {S : VS} {d : Nat} (hd : S.deep = (d : Int) + 1) (h24 : d < 24) (hT : S.folds[d]? = some T) : s223 S f v b = some (fo S d (tak f T v b)) := by
  have hself := fo_self hT
  have hc0 := h.c0
  have hct := h.count
  unfold s223 tak
  rw [ckF (by rw [hd]; constructor <;> omega), show S.deep - 1 = (d : Int) by omega, bindT (getT (x := T) (by omega) (by omega) (by rw [Int.toNat_natCast]; exact hT)), Int.toNat_natCast]
  by_cases h4 : T.bad.kind = 4
  · rw [if_pos h4, if_pos h4, hself]
  rw [if_neg h4, if_neg h4]
  by_cases g4 : v.kind = 4
  · rw [if_pos g4, if_pos g4]; rfl
  rw [if_neg g4, if_neg g4]
  by_cases h6 : f = 6
  · rw [if_pos h6, if_pos (Or.inl h6)]
    by_cases g3 : v.kind = 3
    · rw [if_pos g3, if_pos g3]
      split
      · rfl
      · rw [hself]
    · rw [if_neg g3, if_neg g3]; rfl
  rw [if_neg h6]
  by_cases h7 : f = 7
  · rw [if_pos h7, if_pos (Or.inr h7)]
    by_cases g3 : v.kind = 3
    · rw [if_pos g3, if_pos g3]
      split
      · rfl
      · rw [hself]
    · rw [if_neg g3, if_neg g3]; rfl
  rw [if_neg h7, if_neg (show ¬ (f = 6 ∨ f = 7) by omega)]
  by_cases g0 : v.kind = 0
  · rw [if_pos g0, if_pos g0, hself]
  rw [if_neg g0, if_neg g0]
  by_cases g1 : v.kind = 1
  · rw [if_pos g1, if_pos g1]
    have hn := hv.num g1
    have hi : ∀ x, i64ok ((({ T with acc := x } : TallyT)).count + 1) := fun x => by
      show i64ok (T.count + 1)
      rw [hct]; constructor <;> omega
    have key : ∀ x, k223_1 S (fo S d { T with acc := x }) = some (fo S d { T with count := T.count + 1, acc := x }) := fun x => k223_ok hd h24 rfl hT (hi x)
    have key0 : k223_1 S S = some (fo S d { T with count := T.count + 1 }) := k223_ok hd h24 hself.symm hT (hi T.acc)
    by_cases e1 : f = 1
    · have hs := h.sum
      have := h.f1 e1
      rw [if_pos e1, if_pos e1, ckF (by rw [this]; constructor <;> omega)]
      exact key _
    rw [if_neg e1, if_neg e1]
    by_cases e2 : f = 2
    · rw [if_pos e2, if_pos e2]
      split
      · exact key _
      · split
        · exact key _
        · exact key0
    rw [if_neg e2, if_neg e2]
    by_cases e3 : f = 3
    · rw [if_pos e3, if_pos e3]
      split
      · exact key _
      · split
        · exact key _
        · exact key0
    rw [if_neg e3, if_neg e3]
    exact key0
  rw [if_neg g1, if_neg g1]
  by_cases hb : b = true
  · rw [if_pos hb, if_pos hb, hself]
  · rw [if_neg hb, if_neg hb]; rfl
theorem tak_ok {f : Int} {k : Nat} {T : TallyT} {F : FoldT} {v : ValT} (b : Bool) (hf : IsTal f) (h : FoldR f k T F) (hk : k ≤ 1000000) (hv : Okv v) : ∃ F', s240 F f v b = some F' ∧ FoldR f (k + 1) (tak f T v b) F' := by
  have hw := hv.lw
  have hc0 := h.c0
  have hct := h.count
  have hsum := h.sum
  unfold s240 tak
  rw [h.bad]
  by_cases h4 : F.bad.kind = 4
  · rw [if_pos h4, if_pos h4]
    exact ⟨_, rfl, h.le (by omega)⟩
  rw [if_neg h4, if_neg h4]
  by_cases g4 : v.kind = 4
  · rw [if_pos g4, if_pos g4]
    exact ⟨_, rfl, { h.le (Nat.le_succ k) with bad := rfl, okb := fun _ => hv }⟩
  rw [if_neg g4, if_neg g4]
  have hbad : FoldR f (k + 1) { T with bad := s131 5 } { F with bad := s131 5 } := { h.le (Nat.le_succ k) with bad := rfl, okb := fun _ => okv_err (by decide) }
  have ao : (if F.all = true then (if F.some = true then some ({ F with all := decide (v.n = (1 : Int)), some := true } : FoldT) else some ({ F with all := decide (v.n = (1 : Int)), some := decide (v.n = (1 : Int)) })) else (if F.some = true then some ({ F with all := false, some := true }) else some ({ F with all := false, some := decide (v.n = (1 : Int)) }))) = some ({ F with all := F.all && decide (v.n = 1), some := F.some || decide (v.n = 1) }) := by
    cases F.all <;> cases F.some <;> simp
  by_cases h6 : f = 6
  · rw [if_pos h6, if_pos (Or.inl h6)]
    by_cases g3 : v.kind = 3
    · rw [if_pos g3, if_pos g3, ao]
      have := h.f6 h6
      have hn := hw.tru g3
      have e7 : decide (f = 7) = false := by simp [h6]
      rw [e7]
      have hl := h.le (Nat.le_succ k)
      refine ⟨_, rfl, ?_⟩
      rcases hn with hn | hn
      · rw [hn]
        rw [show decide ((0 : Int) = 1) = false from rfl, if_pos (show (false == false) = true from rfl)]
        exact { bad := rfl, okb := hl.okb, count := hl.count, c0 := hl.c0, sum := hl.sum, min := hl.min, max := hl.max, f1 := by omega, f2 := by omega, f3 := by omega, f6 := by intro; simp, f7 := by omega }
      · rw [hn]
        rw [show decide ((1 : Int) = 1) = true from rfl, if_neg (show ¬ (true == false) = true from by decide)]
        exact { bad := hl.bad, okb := hl.okb, count := hl.count, c0 := hl.c0, sum := hl.sum, min := hl.min, max := hl.max, f1 := by omega, f2 := by omega, f3 := by omega, f6 := by intro; rw [this]; simp, f7 := by omega }
    · rw [if_neg g3, if_neg g3]; exact ⟨_, rfl, hbad⟩
  rw [if_neg h6]
  by_cases h7 : f = 7
  · rw [if_pos h7, if_pos (Or.inr h7)]
    by_cases g3 : v.kind = 3
    · rw [if_pos g3, if_pos g3, ao]
      have := h.f7 h7
      have hn := hw.tru g3
      have e7 : decide (f = 7) = true := by simp [h7]
      rw [e7]
      have hl := h.le (Nat.le_succ k)
      refine ⟨_, rfl, ?_⟩
      rcases hn with hn | hn
      · rw [hn]
        rw [show decide ((0 : Int) = 1) = false from rfl, if_neg (show ¬ (false == true) = true from by decide)]
        exact { bad := hl.bad, okb := hl.okb, count := hl.count, c0 := hl.c0, sum := hl.sum, min := hl.min, max := hl.max, f1 := by omega, f2 := by omega, f3 := by omega, f6 := by omega, f7 := by intro; rw [this]; simp }
      · rw [hn]
        rw [show decide ((1 : Int) = 1) = true from rfl, if_pos (show (true == true) = true from rfl)]
        exact { bad := rfl, okb := hl.okb, count := hl.count, c0 := hl.c0, sum := hl.sum, min := hl.min, max := hl.max, f1 := by omega, f2 := by omega, f3 := by omega, f6 := by omega, f7 := by intro; simp }
    · rw [if_neg g3, if_neg g3]; exact ⟨_, rfl, hbad⟩
  rw [if_neg h7, if_neg (show ¬ (f = 6 ∨ f = 7) by omega)]
  by_cases g0 : v.kind = 0
  · rw [if_pos g0, if_pos g0]; exact ⟨_, rfl, h.le (by omega)⟩
  rw [if_neg g0, if_neg g0]
  by_cases g1 : v.kind = 1
  · rw [if_pos g1, if_pos g1]
    have hn := hw.num g1
    have hmin := h.min
    have hmax := h.max
    have k4 : ∀ t : FoldT, t.sum = F.sum → t.count = F.count → k240_4 v t = some { t with sum := t.sum + v.n, count := t.count + 1 } := by
      intro t h1 h2
      unfold k240_4
      rw [ckF (by rw [h1]; constructor <;> omega), ckF (by rw [h2]; constructor <;> omega)]
    have k5 : ∀ m : Int, k240_5 v { F with min := m } = some { F with min := m, max := if F.count = 0 then v.n else if F.max < v.n then v.n else F.max, sum := F.sum + v.n, count := F.count + 1 } := by
      intro m
      unfold k240_5
      simp only
      by_cases c0 : F.count = 0
      · rw [if_pos c0, if_pos c0]; exact k4 _ rfl rfl
      · rw [if_neg c0, if_neg c0]
        by_cases c1 : F.max < v.n
        · rw [if_pos c1, if_pos c1]; exact k4 _ rfl rfl
        · rw [if_neg c1, if_neg c1]; exact k4 _ rfl rfl
    have hall : (if F.count = 0 then k240_5 v { F with min := v.n } else if v.n < F.min then k240_5 v { F with min := v.n } else k240_5 v F) = some { F with min := (if F.count = 0 then v.n else if v.n < F.min then v.n else F.min), max := if F.count = 0 then v.n else if F.max < v.n then v.n else F.max, sum := F.sum + v.n, count := F.count + 1 } := by
      by_cases c0 : F.count = 0
      · rw [if_pos c0, if_pos c0]; exact k5 _
      · rw [if_neg c0, if_neg c0]
        by_cases c1 : v.n < F.min
        · rw [if_pos c1, if_pos c1]; exact k5 _
        · rw [if_neg c1, if_neg c1]; exact k5 F.min
    rw [hall]
    refine ⟨_, rfl, ⟨rfl, h.okb, ?_, ?_, ?_, ?_, ?_, ?_, ?_, ?_, ?_, ?_⟩⟩
    · show T.count + 1 = F.count + 1; omega
    · show 0 ≤ F.count + 1 ∧ F.count + 1 ≤ ((k + 1 : Nat) : Int); omega
    · show -((F.count + 1) * 999999999) ≤ F.sum + v.n ∧ F.sum + v.n ≤ (F.count + 1) * 999999999; omega
    · show -999999999 ≤ (if F.count = 0 then v.n else if v.n < F.min then v.n else F.min) ∧ (if F.count = 0 then v.n else if v.n < F.min then v.n else F.min) ≤ 999999999
      repeat' split
      all_goals omega
    · show -999999999 ≤ (if F.count = 0 then v.n else if F.max < v.n then v.n else F.max) ∧ (if F.count = 0 then v.n else if F.max < v.n then v.n else F.max) ≤ 999999999
      repeat' split
      all_goals omega
    · intro e
      show (if f = 1 then T.acc + v.n else _) = F.sum + v.n
      rw [if_pos e, h.f1 e]
    · intro e
      show (if f = 1 then _ else if f = 2 then _ else _) = _
      rw [if_neg (by omega), if_pos e, h.f2 e, hct]
    · intro e
      show (if f = 1 then _ else if f = 2 then _ else if f = 3 then _ else _) = _
      rw [if_neg (by omega), if_neg (by omega), if_pos e, h.f3 e, hct]
    · intro e; omega
    · intro e; omega
  rw [if_neg g1, if_neg g1]
  by_cases hb : b = true
  · rw [if_pos hb, if_pos hb]; exact ⟨_, rfl, h.le (by omega)⟩
  · rw [if_neg hb, if_neg hb]; exact ⟨_, rfl, hbad⟩
/-- Both sides close alike. -/
def shut (f : Int) (T : TallyT) : ValT := if T.bad.kind = 4 then T.bad else if f = 1 then s238 T.acc else if f = 2 then s200 T.acc else if f = 3 then s200 T.acc else if f = 4 then s200 T.count else s232 (decide (T.acc = 1) == decide (f = 7))
theorem s225_ok {f : Int} {T : TallyT} {S : VS} {d : Nat} (hd : S.deep = (d : Int) + 1) (h24 : d < 24) (hT : S.folds[d]? = some T) : s225 S f = some ({ S with deep := (d : Int) }, shut f T) := by
  unfold s225 shut
  rw [ckF (by rw [hd]; constructor <;> omega), show S.deep - 1 = (d : Int) by omega, bindT (getT (x := T) (by omega) (by omega) (by rw [Int.toNat_natCast]; exact hT))]
  repeat' split
  all_goals rfl
theorem shut_ok {f : Int} {k : Nat} {T : TallyT} {F : FoldT} (hf : IsTal f) (h : FoldR f k T F) (hk : k ≤ 1000000) : shut f T = s230 F f ∧ Okv (shut f T) := by
  have hc0 := h.c0
  have hmin := h.min
  have hmax := h.max
  unfold shut s230
  rw [h.bad]
  by_cases h4 : F.bad.kind = 4
  · rw [if_pos h4, if_pos h4]; exact ⟨rfl, h.okb h4⟩
  rw [if_neg h4, if_neg h4]
  by_cases e1 : f = 1
  · rw [if_pos e1, if_pos e1, h.f1 e1]; exact ⟨rfl, okv_238 _⟩
  rw [if_neg e1, if_neg e1]
  by_cases e2 : f = 2
  · rw [if_pos e2, if_pos e2, h.f2 e2]; exact ⟨rfl, okv_num hmin⟩
  rw [if_neg e2, if_neg e2]
  by_cases e3 : f = 3
  · rw [if_pos e3, if_pos e3, h.f3 e3]; exact ⟨rfl, okv_num hmax⟩
  rw [if_neg e3, if_neg e3]
  by_cases e4 : f = 4
  · rw [if_pos e4, if_pos e4, h.count]; exact ⟨rfl, okv_num (by omega)⟩
  rw [if_neg e4, if_neg e4]
  by_cases e6 : f = 6
  · rw [if_pos e6]
    refine ⟨?_, okv_tru _⟩
    have := h.f6 e6
    have e7 : decide (f = 7) = false := by simp [e6]
    rw [e7]
    cases ha : F.all
    · rw [decide_eq_true (this.2 ha)]; rfl
    · rw [decide_eq_false (fun c => by rw [this.1 c] at ha; cases ha)]; rfl
  · rw [if_neg e6]
    have e7 : f = 7 := by unfold IsTal at hf; omega
    refine ⟨?_, okv_tru _⟩
    have := h.f7 e7
    rw [decide_eq_true e7]
    cases ha : F.some
    · rw [decide_eq_false (fun c => by rw [this.1 c] at ha; cases ha)]; rfl
    · rw [decide_eq_true (this.2 ha)]; rfl
end Go.Proofs.Qxb6500272aGreat
