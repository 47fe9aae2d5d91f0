/-
  Plain laws, values: blocks of cells, sweeps, single instructions.
-/
import Derived.Test.Qxb6500272aGreatX2
namespace Go.Proofs.Qxb6500272aGreat
open Go
set_option linter.unusedVariables false
set_option linter.unusedSimpArgs false
/-! ### Bits -/
theorem s92_bit {c : Nat} (hc : c < 24) (j : Nat) : (s92 (c : Int)).getLsbD j = decide (j = c) := by
  unfold s92
  rw [if_neg (by omega), if_neg (by omega), Int.toNat_natCast]
  simp only [BitVec.getLsbD_shiftLeft, BitVec.getLsbD_one]
  by_cases h : j = c
  · subst h; simp; omega
  · by_cases h2 : j < c
    · simp [h2, h]
    · have : j - c ≠ 0 := by omega
      simp [h, this]
theorem bv_zero {s : BitVec 32} : (s.toNat : Int) = 0 ↔ ∀ j, j < 32 → s.getLsbD j = false := by
  constructor
  · intro h j hj
    have : s = 0 := BitVec.eq_of_toNat_eq (by simpa using h)
    subst this; simp
  · intro h
    have : s = 0 := BitVec.eq_of_getLsbD_eq (fun j hj => by rw [h j hj]; simp)
    subst this; simp
theorem bit_and {s : BitVec 32} {c : Nat} (hc : c < 24) : ((s &&& s92 (c : Int)).toNat : Int) = 0 ↔ s.getLsbD c = false := by
  rw [bv_zero]
  constructor
  · intro h
    have := h c (by omega)
    rw [BitVec.getLsbD_and, s92_bit hc] at this
    simpa using this
  · intro h j hj
    rw [BitVec.getLsbD_and, s92_bit hc]
    by_cases e : j = c
    · subst e; simp [h]
    · simp [e]
theorem bit_shr {s : BitVec 32} {c : Nat} : (((s >>> c) &&& (1 : BitVec 32)).toNat : Int) = 1 ↔ s.getLsbD c = true := by
  have e : (s >>> c) &&& (1 : BitVec 32) = if s.getLsbD c then 1 else 0 := by
    apply BitVec.eq_of_getLsbD_eq
    intro j hj
    rw [BitVec.getLsbD_and, BitVec.getLsbD_ushiftRight]
    change (s.getLsbD (c + j) && (1#32).getLsbD j) = _
    rw [BitVec.getLsbD_one]
    cases h : s.getLsbD c
    · by_cases hj : j = 0
      · subst hj; simp [h]
      · simp [hj]
    · by_cases hj : j = 0
      · subst hj; simp [h]
      · simp [hj]
  rw [e]
  cases s.getLsbD c <;> simp
/-! ### Blocks -/
def rowB (row : Nat) : Nat → Nat → BitVec 32 → BitVec 32
  | 0, _, s => s
  | m + 1, c, s => rowB row m (c + 1) (s ||| ((1 : BitVec 32) <<< (row * 4 + c)))
def blkB (c0 w : Nat) : Nat → Nat → BitVec 32 → BitVec 32
  | 0, _, s => s
  | m + 1, r, s => blkB c0 w m (r + 1) (rowB r w c0 s)
theorem l149_0_ok (n_ : Nat) (x32 r : Nat) (h3 : x32 < 4) (hr : r < 6) (rec : BitVec 32 → Int → Option (BitVec 32 × Bool)) : ∀ (g c : Nat) (s : BitVec 32), c ≤ x32 + 1 → x32 + 1 - c < g → l149_0 n_ (x32 : Int) (r : Int) rec g s (c : Int) = rec (rowB r (x32 + 1 - c) c s) ((r : Int) + 1) := by
  intro g
  induction g with
  | zero => intro c s h1 h2; omega
  | succ g ih =>
    intro c s h1 h2
    show l149_0_st n_ (x32 : Int) (r : Int) rec (l149_0 n_ (x32 : Int) (r : Int) rec g) s (c : Int) = _
    unfold l149_0_st
    by_cases hc : c ≤ x32
    · rw [if_pos (by omega), ckF (by constructor <;> omega), ckF (by constructor <;> omega), ckF (by constructor <;> omega), ckF (by omega), ckF (by constructor <;> omega)]
      have := ih (c + 1) (s ||| ((1 : BitVec 32) <<< (r * 4 + c))) (by omega) (by omega)
      rw [show ((r : Int) * 4 + (c : Int)).toNat = r * 4 + c by omega]
      refine this.trans ?_
      rw [show x32 + 1 - c = (x32 + 1 - (c + 1)) + 1 by omega]
      rfl
    · rw [if_neg (by omega), ckF (by constructor <;> omega), show x32 + 1 - c = 0 by omega]
      rfl
theorem l149_1_ok (n_ : Nat) (hn : 100 ≤ n_) (x31 x32 x36 : Nat) (h1 : x31 ≤ x32) (h3 : x32 < 4) (h6 : x36 < 6) : ∀ (g r : Nat) (s : BitVec 32), r ≤ x36 + 1 → x36 + 1 - r < g → l149_1 n_ (x31 : Int) (x32 : Int) (x36 : Int) g s (r : Int) = some (blkB x31 (x32 + 1 - x31) (x36 + 1 - r) r s, true) := by
  intro g
  induction g with
  | zero => intro r s a b; omega
  | succ g ih =>
    intro r s a b
    show l149_1_st n_ (x31 : Int) (x32 : Int) (x36 : Int) (l149_1 n_ (x31 : Int) (x32 : Int) (x36 : Int) g) s (r : Int) = _
    unfold l149_1_st
    by_cases hr : r ≤ x36
    · rw [if_pos (by omega), l149_0_ok n_ x32 r h3 (by omega) _ n_ x31 s (by omega) (by omega)]
      have := ih (r + 1) (rowB r (x32 + 1 - x31) x31 s) (by omega) (by omega)
      refine this.trans ?_
      rw [show x36 + 1 - r = (x36 + 1 - (r + 1)) + 1 by omega]
      rfl
    · rw [if_neg (by omega), show x36 + 1 - r = 0 by omega]; rfl
theorem s116_iff {r : RefT} : s116 r = true ↔ 0 ≤ r.col ∧ r.col < 4 ∧ 0 ≤ r.row ∧ r.row < 6 := by
  unfold s116
  repeat' split
  all_goals first | (simp; omega) | simp_all
def blkS (a b : RefT) : BitVec 32 × Bool :=
  if s116 a = true ∧ s116 b = true then
    (blkB (min a.col.toNat b.col.toNat) (max a.col.toNat b.col.toNat + 1 - min a.col.toNat b.col.toNat) (max a.row.toNat b.row.toNat + 1 - min a.row.toNat b.row.toNat) (min a.row.toNat b.row.toNat) 0, true)
  else (0, false)
theorem s149_ok {n_ : Nat} (hn : 100 ≤ n_) (a b : RefT) : s149 n_ a b = some (blkS a b) := by
  unfold s149 blkS
  by_cases ha : s116 a = true
  · by_cases hb : s116 b = true
    · rw [if_pos ha, if_pos hb, if_pos (show s116 a = true ∧ s116 b = true from ⟨ha, hb⟩)]
      obtain ⟨a1, a2, a3, a4⟩ := s116_iff.1 ha
      obtain ⟨b1, b2, b3, b4⟩ := s116_iff.1 hb
      have key : ∀ c0 c1 r0 r1 : Nat, c0 ≤ c1 → c1 < 4 → r0 ≤ r1 → r1 < 6 → k149_2 n_ (c0 : Int) (c1 : Int) (r0 : Int) (r1 : Int) = some (blkB c0 (c1 + 1 - c0) (r1 + 1 - r0) r0 0, true) := by
        intro c0 c1 r0 r1 h1 h2 h3 h4
        exact l149_1_ok n_ hn c0 c1 r1 h1 h2 h4 n_ r0 0 (by omega) (by omega)
      obtain ⟨ac, hac⟩ : ∃ q : Nat, a.col = (q : Int) := ⟨a.col.toNat, by omega⟩
      obtain ⟨ar, har⟩ : ∃ q : Nat, a.row = (q : Int) := ⟨a.row.toNat, by omega⟩
      obtain ⟨bc, hbc⟩ : ∃ q : Nat, b.col = (q : Int) := ⟨b.col.toNat, by omega⟩
      obtain ⟨br, hbr⟩ : ∃ q : Nat, b.row = (q : Int) := ⟨b.row.toNat, by omega⟩
      rw [hac, har, hbc, hbr]
      simp only [Int.toNat_natCast]
      have k3 : ∀ c0 c1 : Nat, c0 ≤ c1 → c1 < 4 → k149_3 n_ a b (c0 : Int) (c1 : Int) = some (blkB c0 (c1 + 1 - c0) (max ar br + 1 - min ar br) (min ar br) 0, true) := by
        intro c0 c1 h1 h2
        unfold k149_3
        rw [har, hbr]
        by_cases hr : br < ar
        · rw [if_pos (by omega), key c0 c1 br ar h1 h2 (by omega) (by omega), Nat.max_eq_left (by omega), Nat.min_eq_right (by omega)]
        · rw [if_neg (by omega), key c0 c1 ar br h1 h2 (by omega) (by omega), Nat.max_eq_right (by omega), Nat.min_eq_left (by omega)]
      by_cases hc : bc < ac
      · rw [if_pos (by omega), k3 bc ac (by omega) (by omega), Nat.max_eq_left (by omega : bc ≤ ac), Nat.min_eq_right (by omega : bc ≤ ac)]
      · rw [if_neg (by omega), k3 ac bc (by omega) (by omega), Nat.max_eq_right (by omega : ac ≤ bc), Nat.min_eq_left (by omega : ac ≤ bc)]
    · rw [if_pos ha, if_neg hb, if_neg (show ¬ (s116 a = true ∧ s116 b = true) from fun h => hb h.2)]
  · rw [if_neg ha, if_neg (show ¬ (s116 a = true ∧ s116 b = true) from fun h => ha h.1)]
def In24 (s : BitVec 32) : Prop := ∀ j, 24 ≤ j → s.getLsbD j = false
theorem in24_or {s t : BitVec 32} (h1 : In24 s) (h2 : In24 t) : In24 (s ||| t) := fun j hj => by rw [BitVec.getLsbD_or, h1 j hj, h2 j hj]; rfl
theorem in24_0 : In24 0 := fun j _ => by simp
theorem in24_one {c : Nat} (hc : c < 24) : In24 ((1 : BitVec 32) <<< c) := fun j hj => by
  simp only [BitVec.getLsbD_shiftLeft, BitVec.getLsbD_one]
  have : j - c ≠ 0 := by omega
  simp [this]
theorem in24_92 (c : Int) : In24 (s92 c) := by
  unfold s92
  split
  · exact in24_0
  · split
    · exact in24_0
    · exact in24_one (by omega)
theorem rowB_in {row : Nat} (hr : row < 6) : ∀ (m c : Nat) (s : BitVec 32), c + m ≤ 4 → In24 s → In24 (rowB row m c s) := by
  intro m
  induction m with
  | zero => intro c s _ h; exact h
  | succ m ih => intro c s h1 h; exact ih _ _ (by omega) (in24_or h (in24_one (by omega)))
theorem blkB_in {c0 w : Nat} (hw : c0 + w ≤ 4) : ∀ (m r : Nat) (s : BitVec 32), r + m ≤ 6 → In24 s → In24 (blkB c0 w m r s) := by
  intro m
  induction m with
  | zero => intro r s _ h; exact h
  | succ m ih => intro r s h1 h; exact ih _ _ (by omega) (rowB_in (by omega) _ _ _ hw h)
theorem blkS_in (a b : RefT) : In24 (blkS a b).1 := by
  unfold blkS
  split
  · rename_i h
    obtain ⟨a1, a2, a3, a4⟩ := s116_iff.1 h.1
    obtain ⟨b1, b2, b3, b4⟩ := s116_iff.1 h.2
    exact blkB_in (by omega) _ _ _ (by omega) in24_0
  · exact in24_0
/-! ### Sweeps -/
theorem sweep_ok {f : Int} (hf : IsTal f) (set : BitVec 32) (bl : Bool) (env : List ValT) (hl : env.length = 24) (he : ∀ x ∈ env, Okv x) : ∀ (m i k : Nat) (T : TallyT) (F : FoldT), i + m = 24 → k + m ≤ 1000000 → FoldR f k T F →
    ∃ T' F', FoldR f (k + m) T' F' ∧ (∀ n g, m < g → l229_3 n f env 24 (set, bl) g (i : Int) F = some F') ∧
      (∀ n g S d, m < g → S.deep = ((d : Nat) : Int) + 1 → d < 24 → S.folds[d]? = some T → l224_3 n f set env 24 g (i : Int) S = some (fo S d T')) := by
  intro m
  induction m with
  | zero =>
    intro i k T F h1 h2 hF
    refine ⟨T, F, hF, ?_, ?_⟩
    · intro n g hg
      obtain ⟨g, rfl⟩ : ∃ g', g = g' + 1 := ⟨g - 1, by omega⟩
      show l229_3_st n f env 24 (set, bl) (l229_3 n f env 24 (set, bl) g) (i : Int) F = _
      unfold l229_3_st
      rw [if_neg (by omega)]
    · intro n g S d hg hd h24 hT
      obtain ⟨g, rfl⟩ : ∃ g', g = g' + 1 := ⟨g - 1, by omega⟩
      show l224_3_st n f set env 24 (l224_3 n f set env 24 g) (i : Int) S = _
      unfold l224_3_st
      rw [if_neg (by omega), fo_self hT]
  | succ m ih =>
    intro i k T F h1 h2 hF
    by_cases hb : set.getLsbD i = true
    · have hx : env[i]? = some (env[i]'(by omega)) := List.getElem?_eq_getElem _
      obtain ⟨F1, e1, hF1⟩ := tak_ok true hf hF (by omega) (he _ (List.getElem_mem (by omega : i < env.length)))
      obtain ⟨T', F', hF', e2, e3⟩ := ih (i + 1) (k + 1) _ F1 (by omega) (by omega) hF1
      refine ⟨T', F', by rw [show k + (m + 1) = k + 1 + m by omega]; exact hF', ?_, ?_⟩
      · intro n g hg
        obtain ⟨g, rfl⟩ : ∃ g', g = g' + 1 := ⟨g - 1, by omega⟩
        show l229_3_st n f env 24 (set, bl) (l229_3 n f env 24 (set, bl) g) (i : Int) F = _
        unfold l229_3_st
        rw [if_pos (by omega), if_neg (by rw [bit_and (by omega)]; simp [hb]), bindT (getT (x := env[i]'(by omega)) (by omega) (by omega) (by rw [Int.toNat_natCast]; exact hx)), bindT e1]
        unfold k229_2
        rw [ckF (by constructor <;> omega)]
        exact e2 n g (by omega)
      · intro n g S d hg hd h24 hT
        obtain ⟨g, rfl⟩ : ∃ g', g = g' + 1 := ⟨g - 1, by omega⟩
        show l224_3_st n f set env 24 (l224_3 n f set env 24 g) (i : Int) S = _
        unfold l224_3_st
        rw [if_pos (by omega), ckF (by constructor <;> omega), ckF (by omega), Int.toNat_natCast, if_pos (bit_shr.2 hb), bindT (getT (x := env[i]'(by omega)) (by omega) (by omega) (by rw [Int.toNat_natCast]; exact hx)), bindT (s223_ok true hf hF (by omega) (he _ (List.getElem_mem (by omega : i < env.length))).lw hd h24 hT)]
        unfold k224_2
        rw [ckF (by constructor <;> omega)]
        have := e3 n g (fo S d (tak f T env[i] true)) d (by omega) hd h24 (fo_get (List.getElem?_eq_some_iff.1 hT).1)
        refine this.trans ?_
        rw [fo_fo]
    · have hb : set.getLsbD i = false := by simpa using hb
      obtain ⟨T', F', hF', e2, e3⟩ := ih (i + 1) k T F (by omega) (by omega) hF
      refine ⟨T', F', hF'.le (by omega), ?_, ?_⟩
      · intro n g hg
        obtain ⟨g, rfl⟩ : ∃ g', g = g' + 1 := ⟨g - 1, by omega⟩
        show l229_3_st n f env 24 (set, bl) (l229_3 n f env 24 (set, bl) g) (i : Int) F = _
        unfold l229_3_st
        rw [if_pos (by omega), if_pos (by rw [bit_and (by omega)]; exact hb)]
        unfold k229_2
        rw [ckF (by constructor <;> omega)]
        exact e2 n g (by omega)
      · intro n g S d hg hd h24 hT
        obtain ⟨g, rfl⟩ : ∃ g', g = g' + 1 := ⟨g - 1, by omega⟩
        show l224_3_st n f set env 24 (l224_3 n f set env 24 g) (i : Int) S = _
        unfold l224_3_st
        rw [if_pos (by omega), ckF (by constructor <;> omega), ckF (by omega), Int.toNat_natCast, if_neg (by rw [bit_shr]; simp [hb])]
        unfold k224_2
        rw [ckF (by constructor <;> omega)]
        exact e3 n g S d (by omega) hd h24 hT
/-! ### Values of operators are lawful -/
theorem s226_okv {z : Int} {a x : ValT} (ha : Okv a) (h : s226 z a = some x) : Okv x := by
  have hw := ha.lw
  unfold s226 at h
  by_cases h4 : a.kind = 4
  · rw [if_pos h4] at h; injection h with h; subst h; exact ha
  rw [if_neg h4] at h
  by_cases h8 : z = 8
  · rw [if_pos h8] at h
    split at h
    · injection h with h; subst h; exact okv_tru _
    · injection h with h; subst h; exact okv_err (by decide)
  rw [if_neg h8] at h
  by_cases h10 : z = 10
  · rw [if_pos h10] at h
    have hlen : a.kind = 2 ∨ a.kind = 0 → a.s.length ≤ 40 := by
      intro hk
      unfold Okv s155 at ha
      rcases hk with hk | hk
      · rw [if_neg (by omega), if_neg (by omega), if_pos hk] at ha
        split at ha
        · have := of_decide_eq_true ha; omega
        · cases ha
      · rw [if_pos hk] at ha
        split at ha
        · have : a.s = [] := by simpa using ha
          rw [this]; decide
        · cases ha
    split at h
    · rename_i hk
      have := hlen (Or.inl hk)
      injection h with h; subst h; exact okv_num (by omega)
    · split at h
      · rename_i hk
        have := hlen (Or.inr hk)
        injection h with h; subst h; exact okv_num (by omega)
      · injection h with h; subst h; exact okv_err (by decide)
  rw [if_neg h10] at h
  split at h
  · have hb : -999999999 ≤ (s239 a).1 ∧ (s239 a).1 ≤ 999999999 := by
      unfold s239
      split
      · rename_i hk; exact hw.num hk
      · simp
    split at h
    · split at h
      · injection h with h; subst h; exact okv_num hb
      · obtain ⟨_, h⟩ := ckS h
        injection h with h; subst h; exact okv_num (by omega)
    · obtain ⟨_, h⟩ := ckS h
      injection h with h; subst h; exact okv_num (by omega)
  · injection h with h; subst h; exact okv_err (by decide)
theorem s226_def {z : Int} {a : ValT} (ha : Okv a) : ∃ x, s226 z a = some x := by
  have hw := ha.lw
  have hb : -999999999 ≤ (s239 a).1 ∧ (s239 a).1 ≤ 999999999 := by
    unfold s239
    split
    · rename_i hk; exact hw.num hk
    · simp
  unfold s226
  rw [ckF (by constructor <;> omega)]
  repeat' split
  all_goals exact ⟨_, rfl⟩
theorem s237_okv (z x : Int) : Okv (s237 z x) := by
  unfold s237
  repeat' split
  all_goals exact okv_tru _
theorem s236_def {z x y : Int} (hx : -999999999 ≤ x ∧ x ≤ 999999999) (hy : -999999999 ≤ y ∧ y ≤ 999999999) : ∃ v, s236 z x y = some v ∧ Okv v := by
  unfold s236
  have hm : -999999999000000000 ≤ x * y ∧ x * y ≤ 999999999000000000 := by
    have h1 : (x * y).natAbs ≤ 999999999 * 999999999 := by
      rw [Int.natAbs_mul]; exact Nat.mul_le_mul (by omega) (by omega)
    omega
  have hd : -999999999 ≤ x.tdiv y ∧ x.tdiv y ≤ 999999999 := by
    have h1 : (x.tdiv y).natAbs ≤ x.natAbs := by
      rw [Int.natAbs_tdiv]; exact Nat.div_le_self _ _
    omega
  split
  · rw [ckF (by constructor <;> omega)]; exact ⟨_, rfl, okv_238 _⟩
  split
  · rw [ckF (by constructor <;> omega)]; exact ⟨_, rfl, okv_238 _⟩
  split
  · rw [ckF (by constructor <;> omega)]; exact ⟨_, rfl, okv_238 _⟩
  split
  · exact ⟨_, rfl, okv_err (by decide)⟩
  · rename_i h0
    rw [ckF h0, ckF (by constructor <;> omega)]; exact ⟨_, rfl, okv_238 _⟩
theorem s221_def {z : Int} {a b : ValT} (ha : Okv a) (hb : Okv b) : ∃ x, s221 z a b = some x ∧ Okv x := by
  have hwa := ha.lw
  have hwb := hb.lw
  have amt : ∀ {v : ValT}, VLw v → -999999999 ≤ s235 v ∧ s235 v ≤ 999999999 := by
    intro v hv
    unfold s235
    split
    · rename_i hk; exact hv.num hk
    · simp
  have k0 : ∀ x, ∃ v, k221_0 z x = some v ∧ Okv v := fun x => ⟨_, rfl, s237_okv _ _⟩
  have k1 : ∀ x, ∃ v, k221_1 z a b x = some v ∧ Okv v := by
    intro x
    unfold k221_1
    split
    · exact k0 _
    · exact k0 _
  have k3 : ∀ x, ∃ v, k221_3 z a b x = some v ∧ Okv v := by
    intro x
    unfold k221_3
    split
    · exact k0 _
    · exact k0 _
  have kb : ∀ (h3 : a.kind = 3) (h3' : b.kind = 3), ∃ v, (ck (i64ok (a.n - b.n)) <| some (s237 z (a.n - b.n))) = some v ∧ Okv v := by
    intro h3 h3'
    have := hwa.tru h3
    have := hwb.tru h3'
    rw [ckF (by constructor <;> omega)]
    exact ⟨_, rfl, s237_okv _ _⟩
  obtain ⟨v236, e236, o236⟩ := s236_def (z := z) (amt hwa) (amt hwb)
  have k236 : ∃ v, ((s236 z (s235 a) (s235 b)).bind fun r40 => some r40) = some v ∧ Okv v := ⟨v236, by rw [e236]; rfl, o236⟩
  have err : ∃ v, some (s131 5) = some v ∧ Okv v := ⟨_, rfl, okv_err (by decide)⟩
  unfold s221
  repeat' split
  all_goals first
    | exact ⟨_, rfl, ha⟩
    | exact ⟨_, rfl, hb⟩
    | exact k236
    | exact k1 _
    | exact k3 _
    | exact err
    | exact kb ‹_› ‹_›
theorem s228_okv {c a b : ValT} (hc : Okv c) (ha : Okv a) (hb : Okv b) : Okv (s228 c a b) := by
  unfold s228
  repeat' split
  all_goals first
    | exact hc
    | exact ha
    | exact hb
    | exact okv_err (by decide)
end Go.Proofs.Qxb6500272aGreat
