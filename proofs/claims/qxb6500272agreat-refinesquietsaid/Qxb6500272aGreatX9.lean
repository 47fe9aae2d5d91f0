/-
  Plain laws, values: what a cell's text is worth and what it reads: both sides.
-/
import Derived.Test.Qxb6500272aGreatX8
import Derived.Test.Qxb6500272aGreatL12
namespace Go.Proofs.Qxb6500272aGreat
open Go
set_option linter.unusedVariables false
set_option linter.unusedSimpArgs false
theorem okv_txt {s : List UInt8} (h : s.length ≤ 40) : Okv ⟨2, 0, s⟩ := by
  unfold Okv s155
  simp; omega
theorem l156_ok (s : List UInt8) (hs : s.length ≤ 40) (x27 : Int) : ∀ (m i acc : Nat), i + m = s.length → (acc + 1) * 10 ^ m ≤ 1000000000 → ∃ p, Okv p ∧ ∀ n g, m < g → l156_1 n s x27 g (acc : Int) (i : Int) = some p := by
  intro m
  induction m with
  | zero =>
    intro i acc h1 h2
    have h2 : acc + 1 ≤ 1000000000 := by simpa using h2
    by_cases h : x27 = 1
    · refine ⟨s200 (-(acc : Int)), okv_num (by omega), ?_⟩
      intro n g hg
      obtain ⟨g, rfl⟩ : ∃ g', g = g' + 1 := ⟨g - 1, by omega⟩
      show l156_1_st n s x27 (l156_1 n s x27 g) (acc : Int) (i : Int) = _
      unfold l156_1_st
      rw [if_neg (by omega), if_pos h, ckF (by constructor <;> omega)]
      rfl
    · refine ⟨s200 (acc : Int), okv_num (by omega), ?_⟩
      intro n g hg
      obtain ⟨g, rfl⟩ : ∃ g', g = g' + 1 := ⟨g - 1, by omega⟩
      show l156_1_st n s x27 (l156_1 n s x27 g) (acc : Int) (i : Int) = _
      unfold l156_1_st
      rw [if_neg (by omega), if_neg h]
      rfl
  | succ m ih =>
    intro i acc h1 h2
    by_cases hd : 48 ≤ (s.getD i 0).toNat ∧ (s.getD i 0).toNat ≤ 57
    · have hp : (acc * 10 + ((s.getD i 0).toNat - 48) + 1) * 10 ^ m ≤ 1000000000 := by
        refine Nat.le_trans ?_ h2
        rw [Nat.pow_succ, Nat.mul_comm (10 ^ m) 10, ← Nat.mul_assoc]
        exact Nat.mul_le_mul_right _ (by omega)
      have hb : acc + 1 ≤ 1000000000 := by
        refine Nat.le_trans ?_ h2
        exact Nat.le_mul_of_pos_right _ (Nat.pos_of_ne_zero (by simp))
      obtain ⟨p, op, e⟩ := ih (i + 1) _ (by omega) hp
      refine ⟨p, op, ?_⟩
      intro n g hg
      obtain ⟨g, rfl⟩ : ∃ g', g = g' + 1 := ⟨g - 1, by omega⟩
      show l156_1_st n s x27 (l156_1 n s x27 g) (acc : Int) (i : Int) = _
      unfold l156_1_st
      rw [Int.toNat_natCast, if_pos (by omega), ckF (by omega), if_neg (by omega), if_neg (by omega), ckF (by constructor <;> omega), ckF (by omega), ckF (by constructor <;> omega), ckF (by constructor <;> omega), ckF (by constructor <;> omega)]
      have := e n g (by omega)
      rw [← this]
      congr 1
      omega
    · refine ⟨⟨2, 0, s⟩, okv_txt hs, ?_⟩
      intro n g hg
      obtain ⟨g, rfl⟩ : ∃ g', g = g' + 1 := ⟨g - 1, by omega⟩
      show l156_1_st n s x27 (l156_1 n s x27 g) (acc : Int) (i : Int) = _
      unfold l156_1_st
      rw [Int.toNat_natCast, if_pos (by omega), ckF (by omega)]
      by_cases h : ((s.getD i 0).toNat : Int) < 48
      · rw [if_pos h]
      · rw [if_neg h, if_pos (by omega)]
theorem k156_ok (s : List UInt8) (hs : s.length ≤ 40) (i : Nat) (hi : i ≤ 1) (h0 : s ≠ []) : ∃ p, Okv p ∧ ∀ n, 1000 ≤ n → k156_2 n s (i : Int) = some p := by
  have hl : 0 < s.length := List.length_pos_iff.2 h0
  by_cases h : s.length - i < 1 ∨ 9 < s.length - i
  · refine ⟨⟨2, 0, s⟩, okv_txt hs, ?_⟩
    intro n hn
    unfold k156_2
    rw [ckF (by constructor <;> omega)]
    by_cases h1 : (s.length : Int) - (i : Int) < 1
    · rw [if_pos h1]
    · rw [if_neg h1, if_pos (by omega)]
  · obtain ⟨p, op, e⟩ := l156_ok s hs (i : Int) (s.length - i) i 0 (by omega) (by
      rw [Nat.zero_add, Nat.one_mul]
      calc 10 ^ (s.length - i) ≤ 10 ^ 9 := Nat.pow_le_pow_right (by omega) (by omega)
        _ = 1000000000 := by decide)
    refine ⟨p, op, ?_⟩
    intro n hn
    unfold k156_2
    rw [ckF (by constructor <;> omega), if_neg (by omega), if_neg (by omega)]
    exact e n n (by omega)
theorem plain_ok (s : List UInt8) (hs : s.length ≤ 40) : ∃ p, Okv p ∧ ∀ n, 1000 ≤ n → s156 n s = some p := by
  by_cases h0 : s = []
  · subst h0
    exact ⟨_, okv_0, fun n _ => rfl⟩
  · have hl : 0 < s.length := List.length_pos_iff.2 h0
    have hb : ¬ (s == ([] : List UInt8)) = true := by simpa using h0
    by_cases h45 : ((s.getD (Int.toNat (0 : Int)) 0).toNat : Int) = 45
    · obtain ⟨p, op, e⟩ := k156_ok s hs 1 (by omega) h0
      refine ⟨p, op, fun n hn => ?_⟩
      unfold s156
      rw [if_neg hb, ckF (by omega), if_pos h45]
      exact e n hn
    · obtain ⟨p, op, e⟩ := k156_ok s hs 0 (by omega) h0
      refine ⟨p, op, fun n hn => ?_⟩
      unfold s156
      rw [if_neg hb, ckF (by omega), if_neg h45]
      exact e n hn
/-! ### The code stays -/
theorem s219_code {S S' : VS} {x : ValT} (h : s219 S x = some S') : S'.code = S.code := by
  unfold s219 at h
  obtain ⟨_, _, h⟩ := bindS h
  obtain ⟨_, h⟩ := ckS h
  injection h with h; subst h; rfl
theorem s202_code {S : VS} {r : VS × ValT} (h : s202 S = some r) : r.1.code = S.code := by
  unfold s202 at h
  obtain ⟨_, h⟩ := ckS h
  obtain ⟨_, _, h⟩ := bindS h
  injection h with h; subst h; rfl
theorem s225_code {S : VS} {f : Int} {r : VS × ValT} (h : s225 S f = some r) : r.1.code = S.code := by
  unfold s225 at h
  obtain ⟨_, h⟩ := ckS h
  obtain ⟨_, _, h⟩ := bindS h
  repeat' split at h
  all_goals (injection h with h; subst h; rfl)
theorem k223_code {S S1 S' : VS} (h : k223_1 S S1 = some S') : S'.code = S1.code := by
  unfold k223_1 at h
  obtain ⟨_, _, h⟩ := bindS h
  obtain ⟨_, h⟩ := ckS h
  injection h with h; subst h; rfl
def KC (C : List InstrT) (o : Option VS) : Prop := ∀ S', o = some S' → S'.code = C
theorem KC.ite {C : List InstrT} {c : Prop} [Decidable c] {a b : Option VS} (h1 : KC C a) (h2 : KC C b) : KC C (if c then a else b) := by
  by_cases h : c
  · rw [if_pos h]; exact h1
  · rw [if_neg h]; exact h2
theorem KC.ck {C : List InstrT} {c : Prop} [Decidable c] {a : Option VS} (h : KC C a) : KC C (ck c a) := fun S' e => h S' (ckS e).2
theorem KC.some {C : List InstrT} {S : VS} (h : S.code = C) : KC C (some S) := fun S' e => by injection e with e; subst e; exact h
theorem KC.k223 {C : List InstrT} {S S1 : VS} (h : S1.code = C) : KC C (k223_1 S S1) := fun S' e => (k223_code e).trans h
theorem s223_code {S S' : VS} {f : Int} {v : ValT} {b : Bool} (h : s223 S f v b = some S') : S'.code = S.code := by
  unfold s223 at h
  obtain ⟨_, h⟩ := ckS h
  obtain ⟨x, _, h⟩ := bindS h
  refine (?_ : KC S.code _) S' h
  repeat' (first | exact KC.some rfl | exact KC.k223 rfl | apply KC.ck | apply KC.ite)
theorem l224_code (n : Nat) (f : Int) (set : BitVec 32) (env : List ValT) (m : Nat) : ∀ (g : Nat) (i : Int) (S S' : VS), l224_3 n f set env m g i S = some S' → S'.code = S.code := by
  intro g
  induction g with
  | zero => intro i S S' h; cases h
  | succ g ih =>
    intro i S S' h
    have h : l224_3_st n f set env m (l224_3 n f set env m g) i S = some S' := h
    unfold l224_3_st at h
    split at h
    · obtain ⟨_, h⟩ := ckS h
      obtain ⟨_, h⟩ := ckS h
      split at h
      · obtain ⟨x, _, h⟩ := bindS h
        obtain ⟨S1, e1, h⟩ := bindS h
        unfold k224_2 at h
        obtain ⟨_, h⟩ := ckS h
        rw [ih _ _ _ h, s223_code e1]
      · unfold k224_2 at h
        obtain ⟨_, h⟩ := ckS h
        exact ih _ _ _ h
    · injection h with h; subst h; rfl
theorem s201_code {n : Nat} {S S' : VS} {x : InstrT} {env : List ValT} {m : Nat} (h : s201 n S x env m = some S') : S'.code = S.code := by
  unfold s201 at h
  split at h
  · obtain ⟨_, e, h⟩ := bindS h; injection h with h; subst h; exact s219_code e
  split at h
  · obtain ⟨_, _, h⟩ := bindS h; obtain ⟨_, e, h⟩ := bindS h; injection h with h; subst h; exact s219_code e
  split at h
  · obtain ⟨_, e1, h⟩ := bindS h; obtain ⟨_, _, h⟩ := bindS h; obtain ⟨_, e, h⟩ := bindS h; injection h with h; subst h
    rw [s219_code e, s202_code e1]
  split at h
  · obtain ⟨_, e1, h⟩ := bindS h; obtain ⟨_, e2, h⟩ := bindS h; obtain ⟨_, _, h⟩ := bindS h; obtain ⟨_, e, h⟩ := bindS h; injection h with h; subst h
    rw [s219_code e, s202_code e2, s202_code e1]
  split at h
  · obtain ⟨_, e1, h⟩ := bindS h; obtain ⟨_, e2, h⟩ := bindS h; obtain ⟨_, e3, h⟩ := bindS h; obtain ⟨_, e, h⟩ := bindS h; injection h with h; subst h
    rw [s219_code e, s202_code e3, s202_code e2, s202_code e1]
  split at h
  · obtain ⟨_, _, h⟩ := bindS h; obtain ⟨_, h⟩ := ckS h; injection h with h; subst h; rfl
  split at h
  · obtain ⟨_, e1, h⟩ := bindS h; obtain ⟨_, e, h⟩ := bindS h; injection h with h; subst h
    rw [s223_code e, s202_code e1]
  split at h
  · obtain ⟨_, e, h⟩ := bindS h; injection h with h; subst h; exact l224_code _ _ _ _ _ _ _ _ _ e
  split at h
  · obtain ⟨_, e, h⟩ := bindS h; injection h with h; subst h; exact s223_code e
  split at h
  · obtain ⟨_, e1, h⟩ := bindS h; obtain ⟨_, e, h⟩ := bindS h; injection h with h; subst h
    rw [s219_code e, s225_code e1]
  · injection h with h; subst h; rfl
theorem run_loop (n : Nat) (env : List ValT) : ∀ (P : List InstrT) (g i : Nat) (S S' : VS), S.code.drop i = P → S.code.length = 48 → i + P.length = 48 → P.length < g → exec n env P S = some S' → l157_0 n env 24 g (i : Int) S = (s202 ({ S' with start := (48 : Int) })).bind fun r54 => some (r54.1, r54.2) := by
  intro P
  induction P with
  | nil =>
    intro g i S S' h1 h2 h3 h4 h5
    obtain ⟨g, rfl⟩ : ∃ g', g = g' + 1 := ⟨g - 1, by omega⟩
    injection h5 with h5
    subst h5
    show l157_0_st n env 24 (l157_0 n env 24 g) (i : Int) S = _
    unfold l157_0_st
    simp at h3
    rw [if_neg (by omega)]
  | cons x P ih =>
    intro g i S S' h1 h2 h3 h4 h5
    obtain ⟨g, rfl⟩ : ∃ g', g = g' + 1 := ⟨g - 1, by omega⟩
    simp only [List.length_cons] at h3 h4
    have h5 : (s201 n S x env 24).bind (fun S => exec n env P S) = some S' := h5
    obtain ⟨S1, e1, h5⟩ := bindS h5
    have hx : S.code[i]? = some x := by
      have : (S.code.drop i)[0]? = some x := by rw [h1]; rfl
      rw [List.getElem?_drop] at this; exact this
    show l157_0_st n env 24 (l157_0 n env 24 g) (i : Int) S = _
    unfold l157_0_st
    rw [if_pos (by omega), bindT (getT (x := x) (by omega) (by omega) (by rw [Int.toNat_natCast]; exact hx)), bindT e1, ckF (by constructor <;> omega)]
    refine ih g (i + 1) S1 S' ?_ ?_ (by omega) (by omega) h5
    · rw [s201_code e1, ← List.drop_drop, h1]; rfl
    · rw [s201_code e1]; exact h2
/-! ### Only what is read counts -/
theorem l224_env (n : Nat) (f : Int) (set : BitVec 32) (env env' : List ValT) (h : ∀ c, c < 24 → set.getLsbD c = true → env[c]? = env'[c]?) : ∀ (g : Nat) (i : Int) (S : VS), l224_3 n f set env 24 g i S = l224_3 n f set env' 24 g i S := by
  intro g
  induction g with
  | zero => intro i S; rfl
  | succ g ih =>
    intro i S
    show l224_3_st n f set env 24 (l224_3 n f set env 24 g) i S = l224_3_st n f set env' 24 (l224_3 n f set env' 24 g) i S
    have hg : l224_3 n f set env 24 g = l224_3 n f set env' 24 g := by funext i S; exact ih i S
    unfold l224_3_st
    rw [hg]
    by_cases h1 : i < 24
    · rw [if_pos h1, if_pos h1]
      by_cases h2 : 0 ≤ i
      · rw [ckF (by omega), ckF h2, ckF (by omega), ckF h2]
        obtain ⟨c, rfl⟩ : ∃ c : Nat, i = (c : Int) := ⟨i.toNat, by omega⟩
        rw [Int.toNat_natCast]
        by_cases h3 : (((set >>> c) &&& (1 : BitVec 32)).toNat : Int) = 1
        · rw [if_pos h3, if_pos h3]
          have : getN env 24 (c : Int) = getN env' 24 (c : Int) := by
            unfold getN
            rw [if_pos (by omega), if_pos (by omega), Int.toNat_natCast]
            exact h c (by omega) (bit_shr.1 h3)
          rw [this]
        · rw [if_neg h3, if_neg h3]
      · have : ¬ (0 ≤ i ∧ i ≤ 18446744073709551615) := by omega
        unfold ck
        rw [if_neg this, if_neg this]
    · rw [if_neg h1, if_neg h1]
theorem s201_env {n : Nat} {S : VS} {x : InstrT} {env env' : List ValT} (w : WfI x) (h : ∀ c, c < 24 → x.set.getLsbD c = true → env[c]? = env'[c]?) : s201 n S x env 24 = s201 n S x env' 24 := by
  have h224 : s224 n S x.a x.set env 24 = s224 n S x.a x.set env' 24 := l224_env n x.a x.set env env' h n 0 S
  unfold s201
  rw [h224]
  by_cases h1 : x.do_ = 1
  · rw [if_pos h1, if_pos h1]
  · rw [if_neg h1, if_neg h1]
    by_cases h2 : x.do_ = 2
    · rw [if_pos h2, if_pos h2]
      obtain ⟨c, e1, e2, e3⟩ := w h2
      have : getN env 24 x.a = getN env' 24 x.a := by
        unfold getN
        rw [if_pos (by omega), if_pos (by omega), e1, Int.toNat_natCast]
        exact h c e2 e3
      rw [this]
    · rw [if_neg h2, if_neg h2]
theorem exec_env {n : Nat} {env env' : List ValT} : ∀ (P : List InstrT) (S : VS), (∀ x ∈ P, WfI x) → (∀ c, c < 24 → (orI P).getLsbD c = true → env[c]? = env'[c]?) → exec n env P S = exec n env' P S := by
  intro P
  induction P with
  | nil => intro S _ _; rfl
  | cons x P ih =>
    intro S hw h
    show (s201 n S x env 24).bind (fun S => exec n env P S) = (s201 n S x env' 24).bind fun S => exec n env' P S
    rw [s201_env (env' := env') (hw x (List.mem_cons_self ..)) (fun c hc hb => h c hc (by show (x.set ||| orI P).getLsbD c = true; rw [BitVec.getLsbD_or, hb]; rfl))]
    congr 1
    funext S
    exact ih S (fun y hy => hw y (List.mem_cons_of_mem _ hy)) (fun c hc hb => h c hc (by show (x.set ||| orI P).getLsbD c = true; rw [BitVec.getLsbD_or, hb, Bool.or_true]))
def dFS : FoS := ⟨[], 0, 0, 0, [], 0, [], 0, [], 0, false, false, 0, 0, [], [], 0⟩
def dVS : VS := ⟨dFS, [], 0, 0, [], List.replicate 24 ⟨0, 0, []⟩, 0, List.replicate 24 ⟨⟨0, 0, []⟩, 0, 0⟩, 0⟩
theorem dVS_rdy : Rdy dVS 0 0 := ⟨rfl, rfl, by simp [dVS], by simp [dVS]⟩
theorem run_env {env env' : List ValT} {P : List InstrT} {lo : Nat} {x y : ValT} (hw : ∀ x ∈ P, WfI x) (h : ∀ c, c < 24 → (orI P).getLsbD c = true → env[c]? = env'[c]?) (h1 : Run env P lo [x] []) (h2 : Run env' P lo [y] []) : x = y := by
  obtain ⟨S1, e1, r1⟩ := h1 1000 (Nat.le_refl _) dVS 0 0 dVS_rdy (Nat.zero_le _) (Nat.zero_le _)
  obtain ⟨S2, e2, r2⟩ := h2 1000 (Nat.le_refl _) dVS 0 0 dVS_rdy (Nat.zero_le _) (Nat.zero_le _)
  rw [exec_env P dVS hw h, e2] at e1
  injection e1 with e1
  subst e1
  have a := r1.at (i := 0) rfl
  have b := r2.at (i := 0) rfl
  rw [a] at b
  injection b
theorem rdN_in (x : NodeT) : In24 (rdN x) := by
  unfold rdN
  split
  · split
    · exact in24_92 _
    · exact in24_0
  · split
    · exact blkS_in _ _
    · exact in24_0
theorem rdL_in : ∀ l : List NodeT, In24 (rdL l) := by
  intro l
  induction l with
  | nil => exact in24_0
  | cons x l ih => exact in24_or (rdN_in x) ih
theorem l203_ok {n : Nat} (hn : 1000 ≤ n) (t : TreeV) (hl : t.nodes.length ≤ 24) : ∀ (m i g : Nat) (acc : BitVec 32), i + m = t.nodes.length → m < g → l203_2 n t g acc (i : Int) = some (acc ||| rdL (t.nodes.drop i)) := by
  intro m
  induction m with
  | zero =>
    intro i g acc h1 h2
    obtain ⟨g, rfl⟩ : ∃ g', g = g' + 1 := ⟨g - 1, by omega⟩
    show l203_2_st n t (l203_2 n t g) acc (i : Int) = _
    unfold l203_2_st
    rw [if_neg (by omega), List.drop_eq_nil_of_le (by omega)]
    show _ = some (acc ||| 0)
    simp
  | succ m ih =>
    intro i g acc h1 h2
    obtain ⟨g, rfl⟩ : ∃ g', g = g' + 1 := ⟨g - 1, by omega⟩
    have hi : i < t.nodes.length := by omega
    show l203_2_st n t (l203_2 n t g) acc (i : Int) = _
    unfold l203_2_st
    rw [if_pos (by omega), bindT (getNd (x := t.nodes[i]'hi) (getL hi) rfl), List.drop_eq_getElem_cons hi]
    have hi := ih (i + 1) g
    have k0 : ∀ s, k203_0 (i : Int) (l203_2 n t g) s = some (s ||| rdL (t.nodes.drop (i + 1))) := by
      intro s
      unfold k203_0
      rw [ckF (by constructor <;> omega)]
      exact hi s (by omega) (by omega)
    show _ = some (acc ||| (rdN _ ||| rdL (t.nodes.drop (i + 1))))
    generalize t.nodes[i]'(by omega) = x
    unfold k203_1 rdN
    by_cases h3 : x.kind = 3
    · rw [if_pos h3, if_pos h3]
      by_cases hg : s116 x.r1 = true
      · obtain ⟨g1, g2, g3, g4⟩ := s116_iff.1 hg
        have h217 : s217 x.r1 = some (x.r1.row * 4 + x.r1.col) := by
          unfold s217
          rw [ckF (by constructor <;> omega), ckF (by constructor <;> omega)]
        rw [if_pos hg, if_pos hg, bindT h217, if_neg (by omega), k0, BitVec.or_assoc]
      · rw [if_neg hg, if_neg hg, if_neg (by omega), k0]
        simp
    · rw [if_neg h3, if_neg h3]
      by_cases h4 : x.kind = 4
      · rw [if_pos h4, if_pos h4, bindT (s149_ok (by omega) x.r1 x.r2), k0, BitVec.or_assoc]
      · rw [if_neg h4, if_neg h4, k0]
        simp
/-! ### The evaluator between its calls -/
structure VIdle (S : VS) : Prop where
  f : FIdle S.f
  code : S.code.length = 48
  start : S.start = 48
  owner : S.owner.length = 24
  st : S.stack.length = 24
  top : S.top = 0
  fo : S.folds.length = 24
  deep : S.deep = 0
theorem PT_ok {s : List UInt8} (h : (PT s).err = 0) : TreeOK (PT s) := by
  unfold PT at h ⊢
  by_cases hl : 40 < s.length
  · rw [if_pos hl] at h; exact absurd h (by decide)
  · rw [if_neg hl] at h ⊢; exact DT_ok h
/-- What the program of a tree is, once and for all. -/
theorem tree_prog {t : TreeV} (h : TreeOK t) : ∃ (w : Nat) (P : List InstrT), t.root = (w : Int) ∧ w + 1 = t.nodes.length ∧ CV t.nodes 0 w P ∧ seg t.nodes 0 w = t.nodes := by
  obtain ⟨w, e1, e2, e3⟩ := h.lw
  obtain ⟨y, P, g1, g2, g3⟩ := (lw_all h.bd.1 e3).1 rfl
  refine ⟨w, P, e1, e2, ?_, ?_⟩
  · rcases g2 with ⟨h4, _⟩ | ⟨_, h5⟩
    · exact absurd (g3 h4) (by decide)
    · exact h5
  · unfold seg
    rw [List.drop_zero, show w + 1 - 0 = t.nodes.length by omega, List.take_length]
theorem s153_ok {n : Nat} (hn : 1000 ≤ n) {t : TreeV} {w : Nat} {P : List InstrT} (hw : w + 1 = t.nodes.length) (hl : t.nodes.length ≤ 24) (h : CV t.nodes 0 w P) (S : VS) (h1 : S.code.length = 48) (h2 : S.owner.length = 24) :
    ∃ S', s153 n S t.nodes t.nodes.length = some S' ∧ CmpTo { S with start := 48, cells := 0 } P 0 w S' := by
  unfold s153
  rw [ckF (by constructor <;> omega)]
  obtain ⟨S', c, e⟩ := h.comp n hn (n - (w + 1)) { S with start := 48, cells := 0 } h1 h2 (by show _ ≤ (48 : Int); omega) (by show (48 : Int) ≤ 48; omega)
  refine ⟨S', ?_, c⟩
  rw [show n - (w + 1) + (w + 1 - 0) = n by omega] at e
  rw [show ((t.nodes.length : Nat) : Int) - 1 = (w : Int) by omega, e]
  obtain ⟨g, hg⟩ : ∃ g, n - (w + 1) = g + 1 := ⟨n - (w + 1) - 1, by omega⟩
  rw [hg]
  show l153_3_st n t.nodes t.nodes.length (l153_3 n t.nodes t.nodes.length g) (((0 : Nat) : Int) - 1) S' = _
  unfold l153_3_st
  rw [if_neg (by omega)]
end Go.Proofs.Qxb6500272aGreat
