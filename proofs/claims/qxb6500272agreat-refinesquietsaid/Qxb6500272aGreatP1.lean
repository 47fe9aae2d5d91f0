/-
  Plain laws, printing: the buffer that is written from its end.
-/
import Derived.Test.Qxb6500272aGreatL8
namespace Go.Proofs.Qxb6500272aGreat
open Go
set_option linter.unusedVariables false
set_option linter.unusedSimpArgs false
def toI (t : List UInt8) : List Int := t.map fun b => (b.toNat : Int)
/-- The buffer with t written ahead of what stands. -/
def pre (S : FoS) (t : List UInt8) : FoS := { S with out := S.out.take (S.w.toNat - t.length) ++ (toI t ++ S.out.drop S.w.toNat), w := S.w - t.length }
/-- There is room for n bytes. -/
structure Room (S : FoS) (n : Nat) : Prop where
  out : S.out.length = 288
  lo : (n : Int) ≤ S.w
  hi : S.w ≤ 288
theorem toI_len (t : List UInt8) : (toI t).length = t.length := by unfold toI; simp
theorem pre_room {S : FoS} {n : Nat} {t : List UInt8} (h : Room S (t.length + n)) : Room (pre S t) n := by
  obtain ⟨h1, h2, h3⟩ := h
  refine ⟨?_, ?_, ?_⟩
  · unfold pre
    simp only [List.length_append, List.length_take, toI_len, List.length_drop]
    omega
  · show (n : Int) ≤ S.w - t.length
    omega
  · show S.w - t.length ≤ 288
    omega
theorem pre_nil {S : FoS} (h : Room S 0) : pre S [] = S := by
  obtain ⟨h1, h2, h3⟩ := h
  have e1 : S.out.take (S.w.toNat - 0) ++ (toI [] ++ S.out.drop S.w.toNat) = S.out := by
    rw [Nat.sub_zero]
    show S.out.take S.w.toNat ++ S.out.drop S.w.toNat = S.out
    exact List.take_append_drop _ _
  have e2 : S.w - (([] : List UInt8).length : Int) = S.w := by simp
  unfold pre
  rw [e2]
  show ({ S with out := S.out.take (S.w.toNat - 0) ++ (toI [] ++ S.out.drop S.w.toNat) } : FoS) = S
  rw [e1]
theorem pre_pre {S : FoS} {t u : List UInt8} (h : Room S (t.length + u.length)) : pre (pre S t) u = pre S (u ++ t) := by
  obtain ⟨h1, h2, h3⟩ := h
  have hw : (pre S t).w = S.w - t.length := rfl
  have ho : (pre S t).out = S.out.take (S.w.toNat - t.length) ++ (toI t ++ S.out.drop S.w.toNat) := rfl
  have hn : (S.w - (t.length : Int)).toNat = S.w.toNat - t.length := by omega
  have e1 : (pre S t).out.take ((pre S t).w.toNat - u.length) ++ (toI u ++ (pre S t).out.drop (pre S t).w.toNat) = S.out.take (S.w.toNat - (u ++ t).length) ++ (toI (u ++ t) ++ S.out.drop S.w.toNat) := by
    rw [hw, ho, hn]
    have hl : (S.out.take (S.w.toNat - t.length)).length = S.w.toNat - t.length := by rw [List.length_take]; omega
    rw [List.take_append_of_le_length (by rw [hl]; omega), List.take_take, Nat.min_eq_left (by omega)]
    have hd : (S.out.take (S.w.toNat - t.length) ++ (toI t ++ S.out.drop S.w.toNat)).drop (S.w.toNat - t.length) = toI t ++ S.out.drop S.w.toNat := by
      have := List.drop_left (l₁ := S.out.take (S.w.toNat - t.length)) (l₂ := toI t ++ S.out.drop S.w.toNat)
      rw [hl] at this
      exact this
    rw [hd]
    have : toI (u ++ t) = toI u ++ toI t := by unfold toI; simp
    rw [this, List.length_append, List.append_assoc, show S.w.toNat - (u.length + t.length) = S.w.toNat - t.length - u.length by omega]
  have e2 : (pre S t).w - (u.length : Int) = S.w - ((u ++ t).length : Int) := by
    rw [hw, List.length_append]
    omega
  show ({ pre S t with out := (pre S t).out.take ((pre S t).w.toNat - u.length) ++ (toI u ++ (pre S t).out.drop (pre S t).w.toNat), w := (pre S t).w - u.length } : FoS) = _
  rw [e1, e2]
  rfl
theorem s182_ok {S : FoS} (h : Room S 1) (c : UInt8) : s182 S (c.toNat : Int) = some (pre S [c]) := by
  obtain ⟨h1, h2, h3⟩ := h
  unfold s182
  have hlt : (S.w - 1).toNat < S.out.length := by omega
  rw [ckF (by constructor <;> omega), bindT (getT (x := S.out.getD (S.w - 1).toNat 0) (by omega) (by omega) (by rw [List.getElem?_eq_getElem hlt, List.getD_eq_getElem?_getD, List.getElem?_eq_getElem hlt]; rfl))]
  have e : List.set S.out (S.w - 1).toNat (c.toNat : Int) = S.out.take (S.w.toNat - [c].length) ++ (toI [c] ++ S.out.drop S.w.toNat) := by
    rw [List.set_eq_take_append_cons_drop, if_pos hlt]
    have e1 : (S.w - 1).toNat = S.w.toNat - [c].length := by simp only [List.length_singleton]; omega
    have e2 : (S.w - 1).toNat + 1 = S.w.toNat := by omega
    rw [e2, e1]
    rfl
  rw [e]
  rfl
theorem s182_i {S : FoS} (h : Room S 1) (c : Int) (u : UInt8) (hu : (u.toNat : Int) = c) : s182 S c = some (pre S [u]) := by rw [← hu]; exact s182_ok h u
theorem l213_ok (n : Nat) (t : List UInt8) (ht : t.length ≤ 1000) : ∀ (m k : Nat) (S : FoS), k ≤ t.length → k < m → Room S k → l213_0 n t m ((k : Int) - 1) S = some (pre S (t.take k)) := by
  intro m
  induction m with
  | zero => intro k S h1 h2; omega
  | succ m ih =>
    intro k S h1 h2 h3
    show l213_0_st n t (l213_0 n t m) ((k : Int) - 1) S = _
    unfold l213_0_st
    cases k with
    | zero =>
      rw [if_neg (by omega), List.take_zero, pre_nil h3]
    | succ k =>
      rw [if_pos (by omega), ckF (by omega)]
      have hr : Room S ([t.getD k 0].length + k) := ⟨h3.out, by have := h3.lo; simp only [List.length_singleton]; omega, h3.hi⟩
      have e : ((k + 1 : Nat) : Int) - 1 = (k : Int) := by omega
      rw [e, Int.toNat_natCast, bindT (s182_ok ⟨h3.out, by have := h3.lo; omega, h3.hi⟩ _), ckF (by constructor <;> omega), ih k _ (by omega) (by omega) (pre_room hr)]
      have hl : (t.take k).length = k := by rw [List.length_take]; omega
      rw [pre_pre (by rw [hl]; exact hr)]
      congr 2
      rw [List.take_add_one, List.getElem?_eq_getElem (by omega), List.getD_eq_getElem?_getD, List.getElem?_eq_getElem (by omega)]
      rfl
theorem s213_ok {n : Nat} {t : List UInt8} {S : FoS} (ht : t.length ≤ 1000) (hn : t.length < n) (h : Room S t.length) : s213 n S t = some (pre S t) := by
  unfold s213
  rw [ckF (by constructor <;> omega), l213_ok n t ht n t.length S (Nat.le_refl _) hn h, List.take_length]

/-! ### Decimal digits -/
def dC (x : Nat) : UInt8 := UInt8.ofNat (48 + x % 10)
theorem dC_nat (x : Nat) : ((dC x).toNat : Int) = 48 + Int.tmod (x : Int) 10 := by
  unfold dC
  rw [UInt8.toNat_ofNat', Nat.mod_eq_of_lt (by omega), Int.tmod_eq_emod_of_nonneg (by omega)]
  omega
def dgA : Nat → Nat → List UInt8 → List UInt8
  | 0, _, acc => acc
  | k + 1, x, acc => if x = 0 then acc else dgA k (x / 10) (dC x :: acc)
theorem dgA_acc : ∀ (k x : Nat) (acc : List UInt8), dgA k x acc = dgA k x [] ++ acc := by
  intro k
  induction k with
  | zero => intro x acc; rfl
  | succ k ih =>
    intro x acc
    show (if x = 0 then acc else dgA k (x / 10) (dC x :: acc)) = (if x = 0 then [] else dgA k (x / 10) [dC x]) ++ acc
    by_cases h : x = 0
    · rw [if_pos h, if_pos h]; rfl
    · rw [if_neg h, if_neg h, ih (x / 10) (dC x :: acc), ih (x / 10) [dC x], List.append_assoc]; rfl
theorem dgA_len : ∀ (k x : Nat) (acc : List UInt8), (dgA k x acc).length ≤ k + acc.length := by
  intro k
  induction k with
  | zero => intro x acc; show acc.length ≤ _; omega
  | succ k ih =>
    intro x acc
    show (if x = 0 then acc else dgA k (x / 10) (dC x :: acc)).length ≤ _
    split
    · omega
    · have := ih (x / 10) (dC x :: acc)
      simp only [List.length_cons] at this
      omega
/-- The decimal digits of a number below a thousand million. -/
def dg (x : Nat) : List UInt8 := if x = 0 then [48] else dgA 9 x []
theorem dg_len (x : Nat) : (dg x).length ≤ 9 := by
  unfold dg
  split
  · simp
  · have := dgA_len 9 x []; simpa using this
theorem tdiv10 (x : Nat) : Int.tdiv (x : Int) 10 = ((x / 10 : Nat) : Int) := by
  rw [Int.tdiv_eq_ediv_of_nonneg (by omega)]; omega
theorem l212_ok (n : Nat) : ∀ (m k x : Nat) (S : FoS), k < m → k ≤ 9 → x ≠ 0 → x < 10 ^ k → Room S (dgA k x []).length → l212_0 n m (x : Int) (9 - (k : Int)) S = some (pre S (dgA k x [])) := by
  intro m
  induction m with
  | zero => intro k x S h; omega
  | succ m ih =>
    intro k x S h1 h2 h3 h4 h5
    obtain ⟨k, rfl⟩ : ∃ k', k = k' + 1 := by
      cases k with
      | zero => simp at h4; omega
      | succ k => exact ⟨k, rfl⟩
    show l212_0_st n (l212_0 n m) (x : Int) (9 - ((k + 1 : Nat) : Int)) S = _
    unfold l212_0_st
    have hx : x < 10 ^ 9 := Nat.lt_of_lt_of_le h4 (Nat.pow_le_pow_right (by omega) h2)
    have hd : dgA (k + 1) x [] = dgA k (x / 10) [] ++ [dC x] := by
      show (if x = 0 then [] else dgA k (x / 10) [dC x]) = _
      rw [if_neg h3, dgA_acc]
    rw [hd] at h5 ⊢
    have hl : (dgA k (x / 10) [] ++ [dC x]).length = (dgA k (x / 10) []).length + 1 := by simp
    rw [hl] at h5
    have hr : Room S ([dC x].length + (dgA k (x / 10) []).length) := ⟨h5.out, by have := h5.lo; simp only [List.length_singleton]; omega, h5.hi⟩
    have hm : Int.tmod (x : Int) 10 = ((x % 10 : Nat) : Int) := by rw [Int.tmod_eq_emod_of_nonneg (by omega)]; omega
    rw [if_pos (by omega), ckF (by constructor <;> omega), ckF (by omega), bindT (s182_i ⟨h5.out, by have := h5.lo; omega, h5.hi⟩ _ _ (dC_nat x)), tdiv10, ckF (by constructor <;> omega)]
    by_cases h0 : x / 10 = 0
    · rw [if_pos (by omega), h0]
      have : dgA k 0 [] = [] := by cases k <;> rfl
      rw [this]; rfl
    · rw [if_neg (by omega), ckF (by constructor <;> omega)]
      have e : (9 - ((k + 1 : Nat) : Int)) + 1 = 9 - (k : Int) := by omega
      rw [e, ih k (x / 10) _ (by omega) (by omega) h0 (by rw [Nat.pow_succ] at h4; omega) (pre_room hr), pre_pre hr]
theorem s212_ok {n : Nat} (hn : 20 ≤ n) {x : Nat} (hx : x ≤ 999999999) {S : FoS} (h : Room S (dg x).length) : s212 n S (x : Int) = some (pre S (dg x)) := by
  unfold s212
  unfold dg at h ⊢
  by_cases h0 : x = 0
  · rw [if_pos h0] at h ⊢
    obtain ⟨n, rfl⟩ : ∃ k, n = k + 1 := ⟨n - 1, by omega⟩
    show l212_0_st (n + 1) (l212_0 (n + 1) n) (x : Int) 0 S = _
    unfold l212_0_st
    rw [if_pos (by decide), h0]
    rw [show Int.tmod ((0 : Nat) : Int) 10 = 0 from rfl, show Int.tdiv ((0 : Nat) : Int) 10 = 0 from rfl, ckF (by constructor <;> omega), ckF (by omega), bindT (s182_i h (48 + 0) 48 rfl), ckF (by constructor <;> omega), if_pos rfl]
  · rw [if_neg h0] at h ⊢
    exact l212_ok n n 9 x S (by omega) (by omega) h0 (by omega) h
/-- The model's digits. -/
theorem l191_ok (n : Nat) (z : Int) (hz : ¬ z < 0) : ∀ (m k x : Nat) (acc : List UInt8) (a : List Int), k < m → x < 10 ^ k → k + acc.length ≤ 24 → k ≤ 9 → 1 ≤ k + acc.length → (x = 0 → acc ≠ []) → a.length = 24 → a.drop (24 - acc.length) = toI acc →
    l191_2 n z m (x : Int) (24 - (acc.length : Int)) a = some (dgA k x acc) := by
  intro m
  induction m with
  | zero => intro k x acc a h; omega
  | succ m ih =>
    intro k x acc a h1 h2 h3 h4 h5 h6 h7 h8
    show l191_2_st n z (l191_2 n z m) (x : Int) (24 - (acc.length : Int)) a = _
    unfold l191_2_st
    by_cases h0 : x = 0
    · have hacc : acc.length ≠ 0 := fun h => h6 h0 (List.eq_nil_of_length_eq_zero h)
      rw [if_neg (by omega), if_neg hz]
      have : dgA k x acc = acc := by cases k with | zero => rfl | succ k => exact if_pos h0
      rw [this]
      unfold k191_1
      rw [ckF (by omega)]
      have e : toS a (Int.toNat (24 - (acc.length : Int))) (24 - Int.toNat (24 - (acc.length : Int))) = some acc := by
        rw [show Int.toNat (24 - (acc.length : Int)) = 24 - acc.length by omega]
        unfold toS bytesAt
        have ht : (a.drop (24 - acc.length)).take (24 - (24 - acc.length)) = toI acc := by
          rw [h8, List.take_of_length_le (by rw [toI_len]; omega)]
        rw [ht, if_pos]
        · congr 1
          unfold toI
          rw [List.map_map]
          conv => rhs; rw [← List.map_id acc]
          apply List.map_congr_left
          intro b _
          show UInt8.ofNat ((b.toNat : Int)).toNat = b
          rw [Int.toNat_natCast]
          exact UInt8.ofNat_toNat
        · refine ⟨by omega, fun y hy => ?_⟩
          unfold toI at hy
          obtain ⟨b, _, rfl⟩ := List.mem_map.1 hy
          have := b.toNat_lt
          show 0 ≤ (b.toNat : Int) ∧ (b.toNat : Int) ≤ 255
          omega
      rw [bindT e]
    · obtain ⟨k, rfl⟩ : ∃ k', k = k' + 1 := by
        cases k with
        | zero => simp at h2; omega
        | succ k => exact ⟨k, rfl⟩
      have hx : x < 10 ^ 9 := Nat.lt_of_lt_of_le h2 (Nat.pow_le_pow_right (by omega) h4)
      have hm : Int.tmod (x : Int) 10 = ((x % 10 : Nat) : Int) := by rw [Int.tmod_eq_emod_of_nonneg (by omega)]; omega
      have hlt : (24 - (acc.length : Int) - 1).toNat < a.length := by omega
      rw [if_pos (by omega), ckF (by constructor <;> omega), ckF (by constructor <;> omega), ckF (by omega)]
      rw [bindT (getT (x := a.getD (24 - (acc.length : Int) - 1).toNat 0) (by omega) (by omega) (by rw [List.getElem?_eq_getElem hlt, List.getD_eq_getElem?_getD, List.getElem?_eq_getElem hlt]; rfl))]
      rw [tdiv10, ckF (by constructor <;> omega), ← dC_nat]
      have e1 : (24 - (acc.length : Int) - 1) = 24 - ((dC x :: acc).length : Int) := by simp only [List.length_cons]; omega
      have hd : dgA (k + 1) x acc = dgA k (x / 10) (dC x :: acc) := if_neg h0
      rw [e1, hd]
      refine ih k (x / 10) (dC x :: acc) _ (by omega) (by rw [Nat.pow_succ] at h2; omega) (by simp only [List.length_cons]; omega) (by omega) (by simp only [List.length_cons]; omega) (fun _ h => by cases h) (by rw [List.length_set]; exact h7) ?_
      have e2 : (24 - ((dC x :: acc).length : Int)).toNat = 24 - (dC x :: acc).length := by simp only [List.length_cons]; omega
      rw [e2, List.set_eq_take_append_cons_drop, if_pos (by simp only [List.length_cons]; omega)]
      have hl : (a.take (24 - (dC x :: acc).length)).length = 24 - (dC x :: acc).length := by rw [List.length_take]; omega
      have := List.drop_left (l₁ := a.take (24 - (dC x :: acc).length)) (l₂ := ((dC x).toNat : Int) :: a.drop (24 - (dC x :: acc).length + 1))
      rw [hl] at this
      rw [this, show 24 - (dC x :: acc).length + 1 = 24 - acc.length by simp only [List.length_cons]; omega, h8]
      rfl
theorem s191_ok {n : Nat} (hn : 20 ≤ n) {x : Nat} (hx : x ≤ 999999999) : s191 n (x : Int) = some (dg x) := by
  unfold s191 dg
  by_cases h0 : x = 0
  · rw [if_pos (by omega), if_pos h0]
  · rw [if_neg (by omega), if_neg (by omega), if_neg h0]
    unfold k191_3
    exact l191_ok n x (by omega) n 9 x [] (List.replicate 24 0) (by omega) (by omega) (by simp) (by omega) (by omega) (fun h => absurd h h0) (by simp) (by simp [toI])

/-! ### References and signs -/
def rT (q : RefT) : List UInt8 := (if q.ac = true then [36] else []) ++ UInt8.ofNat (65 + q.col).toNat :: ((if q.ar = true then [36] else []) ++ dg (q.row + 1).toNat)
theorem rT_len {q : RefT} (h : RB1 q) : (rT q).length ≤ 5 := by
  obtain ⟨h1, h2, h3, h4⟩ := h
  have : (dg (q.row + 1).toNat).length ≤ 2 := by
    unfold dg
    rw [if_neg (by omega)]
    have e : dgA 9 (q.row + 1).toNat [] = dgA 2 (q.row + 1).toNat [] := by
      have gen : ∀ (k x : Nat) (acc : List UInt8), x < 10 ^ k → dgA (k + 1) x acc = dgA k x acc := by
        intro k
        induction k with
        | zero =>
          intro x acc hx
          have : x = 0 := by simpa using hx
          exact if_pos this
        | succ k ih =>
          intro x acc hx
          show (if x = 0 then acc else dgA (k + 1) (x / 10) (dC x :: acc)) = if x = 0 then acc else dgA k (x / 10) (dC x :: acc)
          rw [ih (x / 10) _ (by rw [Nat.pow_succ] at hx; omega)]
      have hx : (q.row + 1).toNat < 100 := by omega
      rw [gen 8 _ _ (by omega), gen 7 _ _ (by omega), gen 6 _ _ (by omega), gen 5 _ _ (by omega), gen 4 _ _ (by omega), gen 3 _ _ (by omega), gen 2 _ _ (by omega)]
    rw [e]
    exact dgA_len 2 _ []
  unfold rT
  simp only [List.length_append, List.length_cons]
  have : (if q.ac = true then ([36] : List UInt8) else []).length ≤ 1 := by split <;> simp
  have : (if q.ar = true then ([36] : List UInt8) else []).length ≤ 1 := by split <;> simp
  omega
theorem s192_ok {n : Nat} (hn : 20 ≤ n) {q : RefT} (h : RB1 q) : s192 n q = some (rT q) := by
  obtain ⟨h1, h2, h3, h4⟩ := h
  have hd := dg_len (q.row + 1).toNat
  have e : q.row + 1 = ((q.row + 1).toNat : Int) := by omega
  have k0 : ∀ t : List UInt8, t.length ≤ 10 → k192_0 n q t = some (t ++ dg (q.row + 1).toNat) := by
    intro t ht
    unfold k192_0
    rw [ckF (by constructor <;> omega)]
    have := s191_ok (n := n) hn (x := (q.row + 1).toNat) (by omega)
    rw [← e] at this
    rw [bindT this, ckF (by omega)]
  have k1 : ∀ t : List UInt8, t.length ≤ 1 → k192_1 n q t = some (t ++ UInt8.ofNat (65 + q.col).toNat :: ((if q.ar = true then [36] else []) ++ dg (q.row + 1).toNat)) := by
    intro t ht
    unfold k192_1
    rw [ckF (by constructor <;> omega), ckF (by omega), ckF (by simp only [List.length_singleton]; omega)]
    by_cases ha : q.ar = true
    · rw [if_pos ha, if_pos ha, ckF (by simp only [List.length_append, List.length_singleton]; omega), k0 _ (by simp only [List.length_append, List.length_singleton]; omega)]
      simp
    · rw [if_neg ha, if_neg ha, k0 _ (by simp only [List.length_append, List.length_singleton]; omega)]
      simp
  unfold s192 rT
  by_cases ha : q.ac = true
  · rw [if_pos ha, if_pos ha, k1 _ (by simp)]
  · rw [if_neg ha, if_neg ha, k1 _ (by simp)]
theorem Room.sub {S : FoS} {a b : Nat} (h : Room S a) (hb : b ≤ a) : Room S b := ⟨h.out, by have := h.lo; omega, h.hi⟩
theorem pre_ok {S : FoS} {t u : List UInt8} {o : FoS → Option FoS} (h : Room S (u ++ t).length) (ho : ∀ S', Room S' u.length → o S' = some (pre S' u)) : o (pre S t) = some (pre S (u ++ t)) := by
  have hr : Room S (t.length + u.length) := h.sub (by rw [List.length_append]; omega)
  rw [ho _ (pre_room hr), pre_pre hr]
theorem s214_ok {n : Nat} (hn : 20 ≤ n) {q : RefT} (h : RB1 q) {S : FoS} (hr : Room S (rT q).length) : s214 n S q = some (pre S (rT q)) := by
  obtain ⟨h1, h2, h3, h4⟩ := h
  have e : q.row + 1 = ((q.row + 1).toNat : Int) := by omega
  have hu : ((UInt8.ofNat (65 + q.col).toNat).toNat : Int) = 65 + q.col := u8_back (by omega)
  have k1 : ∀ (S' : FoS), Room S' ((if q.ac = true then ([36] : List UInt8) else []) ++ [UInt8.ofNat (65 + q.col).toNat]).length → k214_1 q S' = some (pre S' ((if q.ac = true then [36] else []) ++ [UInt8.ofNat (65 + q.col).toNat])) := by
    intro S' hr'
    unfold k214_1
    rw [ckF (by constructor <;> omega), ckF (by omega), bindT (s182_i (hr'.sub (by simp)) _ _ hu)]
    by_cases ha : q.ac = true
    · rw [if_pos ha] at hr' ⊢
      rw [if_pos ha]
      have := pre_ok (S := S') (t := [UInt8.ofNat (65 + q.col).toNat]) (u := [36]) (o := fun S => s182 S 36) hr' (fun S' h => s182_i h 36 36 rfl)
      rw [bindT this]
    · rw [if_neg ha, if_neg ha]
      rfl
  unfold s214
  rw [ckF (by constructor <;> omega)]
  have hrT : rT q = ((if q.ac = true then [36] else []) ++ [UInt8.ofNat (65 + q.col).toNat]) ++ ((if q.ar = true then [36] else []) ++ dg (q.row + 1).toNat) := by unfold rT; simp
  rw [hrT] at hr ⊢
  have hs := s212_ok (n := n) hn (x := (q.row + 1).toNat) (S := S) (by omega) (hr.sub (by simp only [List.length_append]; omega))
  rw [← e] at hs
  rw [bindT hs]
  by_cases ha : q.ar = true
  · rw [if_pos ha] at hr ⊢
    rw [if_pos ha]
    have := pre_ok (S := S) (t := dg (q.row + 1).toNat) (u := [36]) (o := fun S => s182 S 36) (hr.sub (by simp only [List.length_append]; omega)) (fun S' h => s182_i h 36 36 rfl)
    rw [bindT this]
    exact pre_ok hr k1
  · rw [if_neg ha] at hr ⊢
    rw [if_neg ha]
    exact pre_ok (t := dg (q.row + 1).toNat) (by simpa using hr) k1
theorem s193_len (x : Int) : (s193 x).length ≤ 2 ∧ 1 ≤ (s193 x).length := by
  unfold s193
  repeat' split
  all_goals simp
theorem s195_len (x : Int) : (s195 x).length ≤ 5 := by
  unfold s195
  repeat' split
  all_goals simp
theorem s215_ok {x : Int} (h1 : 1 ≤ x) (h2 : x ≤ 10) {S : FoS} (hr : Room S (s193 x).length) : s215 S x = some (pre S (s193 x)) := by
  have two : ∀ (a b : UInt8), Room S 2 → (s182 S (b.toNat : Int)).bind (fun r => (s182 r (a.toNat : Int)).bind fun q => some q) = some (pre S [a, b]) := by
    intro a b h
    rw [bindT (s182_ok (h.sub (by omega)) b)]
    have := pre_ok (S := S) (t := [b]) (u := [a]) (o := fun S => s182 S (a.toNat : Int)) h (fun S' h => s182_ok h a)
    rw [bindT this]; rfl
  have one : ∀ (a : UInt8), Room S 1 → ((s182 S (a.toNat : Int)).bind fun q => some q) = some (pre S [a]) := by
    intro a h
    rw [bindT (s182_ok h a)]
  have hx : x = 1 ∨ x = 2 ∨ x = 3 ∨ x = 4 ∨ x = 5 ∨ x = 6 ∨ x = 7 ∨ x = 8 ∨ x = 9 ∨ x = 10 := by omega
  unfold s215 k215_1
  rcases hx with rfl | rfl | rfl | rfl | rfl | rfl | rfl | rfl | rfl | rfl
  · exact one 61 hr
  · exact two 60 62 hr
  · exact one 60 hr
  · exact two 60 61 hr
  · exact one 62 hr
  · exact two 62 61 hr
  · exact one 43 hr
  · exact one 45 hr
  · exact one 42 hr
  · exact one 47 hr
end Go.Proofs.Qxb6500272aGreat
