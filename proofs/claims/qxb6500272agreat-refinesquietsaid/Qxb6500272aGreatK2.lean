/-
  Plain laws, the sheet: the model works the whole sheet out anew.
-/
import Derived.Test.Qxb6500272aGreatK1
namespace Go.Proofs.Qxb6500272aGreat
open Go
set_option linter.unusedVariables false
set_option linter.unusedSimpArgs false
theorem s160_ok {S : GMS} (hS : All24 S.reads) {c : Nat} (hc : c < 24) {r : BitVec 32} (hr : In24 r) : ∃ S', s160 S (c : Int) r = some (S', 0) ∧ S'.reads = S.reads.set c r := by
  have hmask : ((r &&& ~~~(16777215 : BitVec 32)).toNat : Int) = 0 := by
    rw [bv_zero]
    intro j hj
    rw [BitVec.getLsbD_and, BitVec.getLsbD_not, mall j hj]
    by_cases h : j < 24
    · simp [h]
    · rw [hr j (by omega)]; rfl
  refine ⟨{ S with reads := (List.set S.reads (Int.toNat (c : Int)) r), sets := (IntKind.wrap .i64 (S.sets + (1 : Int))) }, ?_, by rw [Int.toNat_natCast]⟩
  unfold s160
  rw [if_neg (by omega), if_neg (by omega), if_pos hmask, bindT (getNd2 0 hS.1 hc)]
theorem l134_ok {n : Nat} (hn : 1000 ≤ n) : ∀ (m i g : Nat) (G : GMS) (M : KMS), i + m = 24 → m < g → Raws M.raw → All24 G.reads → (∀ j, j < i → G.reads.getD j 0 = rdOf (rw_ M.raw j)) →
    ∃ G' v', l134_0 n g (i : Int) G M = some ({ M with v := v' }, G') ∧ G'.reads = RDof M.raw := by
  intro m
  induction m with
  | zero =>
    intro i g G M h1 h2 hr hG h3
    obtain ⟨g, rfl⟩ : ∃ g', g = g' + 1 := ⟨g - 1, by omega⟩
    refine ⟨G, M.v, ?_, ?_⟩
    · show l134_0_st n (l134_0 n g) (i : Int) G M = _
      unfold l134_0_st
      rw [if_neg (by omega)]
    · have hR := RDof_all hr
      apply List.ext_getElem?
      intro c
      by_cases hc : c < 24
      · have a := h3 c (by omega)
        have b := RDof_at hr hc
        rw [← b, List.getD_eq_getElem?_getD, List.getD_eq_getElem?_getD, List.getElem?_eq_getElem (by rw [hG.1]; exact hc), List.getElem?_eq_getElem (by rw [hR.1]; exact hc)] at a
        rw [List.getElem?_eq_getElem (by rw [hG.1]; exact hc), List.getElem?_eq_getElem (by rw [hR.1]; exact hc)]
        exact congrArg some a
      · rw [List.getElem?_eq_none (by rw [hG.1]; omega), List.getElem?_eq_none (by rw [hR.1]; omega)]
  | succ m ih =>
    intro i g G M h1 h2 hr hG h3
    obtain ⟨g, rfl⟩ : ∃ g', g = g' + 1 := ⟨g - 1, by omega⟩
    have hi : i < 24 := by omega
    have hlaw := cellLaw (hr.at i)
    obtain ⟨v1, e1⟩ := hlaw.readsM n hn M.v
    obtain ⟨G1, e2, hG1⟩ := s160_ok hG hi hlaw.in24
    show ∃ G' v', l134_0_st n (l134_0 n g) (i : Int) G M = _ ∧ _
    unfold l134_0_st
    have hraw : getN M.raw 24 (i : Int) = some (rw_ M.raw i) := getNd2 [] hr.1 hi
    rw [if_pos (by omega), bindT hraw, bindT e1, bindT e2, ckF (by constructor <;> omega)]
    have hall : All24 G1.reads := by rw [hG1]; exact hG.set hlaw.in24
    obtain ⟨G', v', e3, h4⟩ := ih (i + 1) g G1 { M with v := v1 } (by omega) (by omega) hr hall (by
      intro j hj
      rw [hG1, getD_set _ _ (by rw [hG.1]; exact hi)]
      by_cases hji : j = i
      · rw [if_pos hji, hji]
      · rw [if_neg hji]; exact h3 j (by omega))
    exact ⟨G', v', e3, h4⟩
theorem s134_ok {n : Nat} (hn : 1000 ≤ n) {M : KMS} (hr : Raws M.raw) : ∃ G v, s134 n M = some ({ M with v := v }, G) ∧ G.reads = RDof M.raw := by
  obtain ⟨G, v, e, h⟩ := l134_ok hn 24 0 n s158 M (by omega) (by omega) hr ⟨rfl, fun x hx => by
    have : x = 0 := List.eq_of_mem_replicate hx
    rw [this]; exact in24_0⟩ (fun j hj => by omega)
  exact ⟨G, v, e, h⟩
/-- The model's set of cyclic cells. -/
theorem l135_ok {n : Nat} (S : GMS) (l : List Int) (hl : l.length = 24) : ∀ (m i g : Nat) (acc : BitVec 32), i + m = 24 → m < g → ∃ S' z, l135_1 n S l g acc (i : Int) = some (S', z) ∧ S'.reads = S.reads ∧ ∀ c, c < 24 → z.getLsbD c = (acc.getLsbD c || (decide (i ≤ c) && decide (lv l c < 0))) := by
  intro m
  induction m with
  | zero =>
    intro i g acc h1 h2
    obtain ⟨g, rfl⟩ : ∃ g', g = g' + 1 := ⟨g - 1, by omega⟩
    refine ⟨{ S with asks := IntKind.wrap .i64 (S.asks + 1) }, acc, ?_, rfl, fun c hc => ?_⟩
    · show l135_1_st n S l (l135_1 n S l g) acc (i : Int) = _
      unfold l135_1_st
      rw [if_neg (by omega)]
    · have : ¬ i ≤ c := by omega
      simp [this]
  | succ m ih =>
    intro i g acc h1 h2
    obtain ⟨g, rfl⟩ : ∃ g', g = g' + 1 := ⟨g - 1, by omega⟩
    have hi : i < 24 := by omega
    show ∃ S' z, l135_1_st n S l (l135_1 n S l g) acc (i : Int) = _ ∧ _
    unfold l135_1_st
    rw [if_pos (by omega), bindT (getLv hl hi rfl)]
    have k0 : ∀ acc, k135_0 (i : Int) (l135_1 n S l g) acc = l135_1 n S l g acc ((i + 1 : Nat) : Int) := by
      intro acc
      unfold k135_0
      rw [ckF (by constructor <;> omega)]; rfl
    by_cases hq : lv l i < 0
    · rw [if_pos hq, k0]
      obtain ⟨S', z, e1, e2, e3⟩ := ih (i + 1) g (acc ||| s92 (i : Int)) (by omega) (by omega)
      refine ⟨S', z, e1, e2, fun c hc => ?_⟩
      rw [e3 c hc, BitVec.getLsbD_or, s92_bit hi]
      by_cases hci : c = i
      · subst hci; simp [hq]
      · have : (decide (i + 1 ≤ c)) = decide (i ≤ c) := by congr 1; simp; omega
        rw [this]; simp [hci]
    · rw [if_neg hq, k0]
      obtain ⟨S', z, e1, e2, e3⟩ := ih (i + 1) g acc (by omega) (by omega)
      refine ⟨S', z, e1, e2, fun c hc => ?_⟩
      rw [e3 c hc]
      by_cases hci : c = i
      · subst hci; simp [hq]
      · have : (decide (i + 1 ≤ c)) = decide (i ≤ c) := by congr 1; simp; omega
        rw [this]
theorem s135_ok {n : Nat} (hn : 1000 ≤ n) {S : GMS} (hS : All24 S.reads) {L : Nat → Int} (hL : LevR (rdb S.reads) L) : ∃ S' z, s135 n S = some (S', z) ∧ S'.reads = S.reads ∧ ∀ c, c < 24 → (z.getLsbD c = true ↔ L c = -1) := by
  obtain ⟨l, e1, h1, h2, h3⟩ := s161_ok hn (S := { S with asks := IntKind.wrap .i64 (S.asks + 1) }) hS
  obtain ⟨S', z, e2, e3, e4⟩ := l135_ok (n := n) S l h1 24 0 n 0 (by omega) (by omega)
  refine ⟨S', z, ?_, e3, fun c hc => ?_⟩
  · unfold s135
    rw [bindT e1]; exact e2
  · rw [e4 c hc]
    have := lev_one hL h2 c hc
    have := h2.lo c hc
    simp; omega
/-- The model's order. -/
theorem ord_ok {L : Nat → Int} {l : List Int} (hl : ∀ c, c < 24 → lv l c = L c) (hb : ∀ c, c < 24 → L c ≤ 23) : (∀ (i : Nat) (x : Int), (ordAll l (4294967295 : BitVec 32) 24)[i]? = some x → ∃ c : Nat, x = (c : Int) ∧ c < 24 ∧ 0 ≤ L c) ∧ (∀ c : Nat, c < 24 → 0 ≤ L c → ∃ i : Nat, (ordAll l (4294967295 : BitVec 32) 24)[i]? = some (c : Int)) ∧ (∀ (i j c d : Nat), i < j → (ordAll l (4294967295 : BitVec 32) 24)[i]? = some (c : Int) → (ordAll l (4294967295 : BitVec 32) 24)[j]? = some (d : Int) → L c ≤ L d) ∧ (ordAll l (4294967295 : BitVec 32) 24).length ≤ 600 := by
  have hones : ∀ c : Nat, c < 24 → ((((4294967295 : BitVec 32) &&& s92 (c : Int)).toNat : Int) ≠ 0) := by
    intro c hc
    rw [ne_eq, bit_and hc]
    have : ∀ c, c < 24 → (4294967295 : BitVec 32).getLsbD c = true := by decide
    rw [this c hc]; decide
  have hrow : ∀ (q : Nat) (x : Int), x ∈ ordRow l (4294967295 : BitVec 32) (q : Int) 24 ↔ ∃ c : Nat, x = (c : Int) ∧ c < 24 ∧ L c = q := by
    intro q x
    unfold ordRow
    rw [List.mem_filterMap]
    constructor
    · intro ⟨c, h1, h2⟩
      have hc := List.mem_range.1 h1
      split at h2
      · rename_i h3
        injection h2 with h2
        have : lv l c = (q : Int) := h3.1
        exact ⟨c, h2.symm, hc, by rw [← hl c hc]; exact this⟩
      · cases h2
    · intro ⟨c, h1, h2, h3⟩
      refine ⟨c, List.mem_range.2 h2, ?_⟩
      rw [if_pos ⟨by show lv l c = _; rw [hl c h2]; exact h3, hones c h2⟩, h1]
  have hmem : ∀ x : Int, x ∈ ordAll l (4294967295 : BitVec 32) 24 ↔ ∃ c : Nat, x = (c : Int) ∧ c < 24 ∧ 0 ≤ L c := by
    intro x
    unfold ordAll
    rw [List.mem_flatMap]
    constructor
    · intro ⟨q, h1, h2⟩
      obtain ⟨c, p1, p2, p3⟩ := (hrow q x).1 h2
      exact ⟨c, p1, p2, by omega⟩
    · intro ⟨c, h1, h2, h3⟩
      have := hb c h2
      exact ⟨(L c).toNat, List.mem_range.2 (by omega), (hrow _ x).2 ⟨c, h1, h2, by omega⟩⟩
  have hpw : (ordAll l (4294967295 : BitVec 32) 24).Pairwise (fun x y => L x.toNat ≤ L y.toNat) := by
    unfold ordAll
    rw [List.pairwise_flatMap]
    constructor
    · intro q hq
      rw [List.pairwise_iff_forall_sublist]
      intro a b hab
      have ha := hab.subset (List.mem_cons_self ..)
      have hb := hab.subset (List.mem_cons_of_mem _ (List.mem_cons_self ..))
      obtain ⟨c, p1, p2, p3⟩ := (hrow q a).1 ha
      obtain ⟨d, q1, q2, q3⟩ := (hrow q b).1 hb
      subst p1; subst q1
      rw [Int.toNat_natCast, Int.toNat_natCast, p3, q3]
      exact Int.le_refl _
    · refine List.Pairwise.imp_of_mem (fun {q r} _ _ hqr => ?_) List.pairwise_lt_range
      intro a ha b hb
      obtain ⟨c, p1, p2, p3⟩ := (hrow q a).1 ha
      obtain ⟨d, q1, q2, q3⟩ := (hrow r b).1 hb
      subst p1; subst q1
      rw [Int.toNat_natCast, Int.toNat_natCast, p3, q3]
      omega
  refine ⟨fun i x hx => (hmem x).1 (List.mem_of_getElem? hx), fun c hc h0 => List.mem_iff_getElem?.1 ((hmem c).2 ⟨c, rfl, hc, h0⟩), ?_, ?_⟩
  · intro i j c d hij hi hj
    rw [List.pairwise_iff_getElem] at hpw
    obtain ⟨i1, i2⟩ := List.getElem?_eq_some_iff.1 hi
    obtain ⟨j1, j2⟩ := List.getElem?_eq_some_iff.1 hj
    have := hpw i j i1 j1 hij
    rw [i2, j2, Int.toNat_natCast, Int.toNat_natCast] at this
    exact this
  · unfold ordAll
    rw [List.length_flatMap]
    have h1 : ∀ q : Nat, (ordRow l (4294967295 : BitVec 32) (q : Int) 24).length ≤ 24 := by
      intro q
      unfold ordRow
      have := List.length_filterMap_le (fun i : Nat => if (l.getD i 0) = (q : Int) ∧ ((((4294967295 : BitVec 32) &&& s92 (i : Int)).toNat : Int) ≠ 0) then some (i : Int) else none) (List.range 24)
      simpa using this
    have h2 : ∀ R : List Nat, (R.map fun q : Nat => (ordRow l (4294967295 : BitVec 32) (q : Int) 24).length).sum ≤ 24 * R.length := by
      intro R
      induction R with
      | nil => exact Nat.le_refl _
      | cons q R ih =>
        have := h1 q
        simp only [List.map_cons, List.sum_cons, List.length_cons]
        omega
    have := h2 (List.range 24)
    rw [List.length_range] at this
    omega
/-! ### The model's sheet -/
structure KMInv (M : KMS) (L : Nat → Int) : Prop where
  raws : Raws M.raw
  lev : LevR (rdb (RDof M.raw)) L
  right : Right M.raw L M.shown
theorem l114_3_ok {n : Nat} (hn : 1000 ≤ n) {rs : List (List UInt8)} (hr : Raws rs) {L : Nat → Int} (hL : LevR (rdb (RDof rs)) L) (S : GMS) {l : List Int} (hO : ∀ (i : Nat) (x : Int), l[i]? = some x → ∃ c : Nat, x = (c : Int) ∧ c < 24 ∧ 0 ≤ L c) (hs : ∀ (i j c d : Nat), i < j → l[i]? = some (c : Int) → l[j]? = some (d : Int) → L c ≤ L d) (hlen : l.length ≤ 900) :
    ∀ (m i g : Nat) (E : List ValT) (M : KMS), i + m = l.length → m < g → M.raw = rs → EnvOk E → (∀ c, c < 24 → L c = -1 → vl E c = ecyc) → (∀ (j x : Nat), j < i → l[j]? = some (x : Int) → vl E x = cvOf (rw_ rs x) E) →
    ∃ E' v', l114_3 n (S, l) g (i : Int) E M = some { M with v := v', shown := E' } ∧ EnvOk E' ∧ (∀ c, c < 24 → L c = -1 → vl E' c = ecyc) ∧ (∀ (j x : Nat), l[j]? = some (x : Int) → vl E' x = cvOf (rw_ rs x) E') := by
  intro m
  induction m with
  | zero =>
    intro i g E M h1 h2 h3 h4 h5 h6
    obtain ⟨g, rfl⟩ : ∃ g', g = g' + 1 := ⟨g - 1, by omega⟩
    refine ⟨E, M.v, ?_, h4, h5, fun j x hj => h6 j x (by have := (List.getElem?_eq_some_iff.1 hj).1; omega) hj⟩
    show l114_3_st n (S, l) (l114_3 n (S, l) g) (i : Int) E M = _
    unfold l114_3_st
    rw [if_neg (by show ¬ (i : Int) < (l.length : Int); omega)]
  | succ m ih =>
    intro i g E M h1 h2 h3 h4 h5 h6
    obtain ⟨g, rfl⟩ : ∃ g', g = g' + 1 := ⟨g - 1, by omega⟩
    have hil : i < l.length := by omega
    obtain ⟨x, hxx, hx24, hLx⟩ := hO i _ (List.getElem?_eq_getElem hil)
    have hx : l[i]? = some (x : Int) := by rw [List.getElem?_eq_getElem hil, hxx]
    have hlaw := cellLaw (hr.at x)
    obtain ⟨v1, e1⟩ := hlaw.cellM E h4 n hn M.v
    have hw := hlaw.okv E h4
    have hraw : getN M.raw 24 (x : Int) = some (rw_ rs x) := by rw [h3]; exact getNd2 [] hr.1 hx24
    have hE' : EnvOk (E.set x (cvOf (rw_ rs x) E)) := h4.set hw
    have keep : ∀ y, y < 24 → 0 ≤ L y → L y ≤ L x → cvOf (rw_ rs y) (E.set x (cvOf (rw_ rs x) E)) = cvOf (rw_ rs y) E := by
      intro y hy h0 hle
      refine cv_dep (hr.at y) hE' h4 fun d hd hb => ?_
      rw [vl_set h4.len hx24]
      by_cases hdx : d = x
      · subst hdx
        have := (hL.a y hy h0).1 d hd (by rw [rdb_at hr hy]; exact hb)
        omega
      · rw [if_neg hdx]
    show ∃ E' v', l114_3_st n (S, l) (l114_3 n (S, l) g) (i : Int) E M = _ ∧ _
    unfold l114_3_st
    rw [if_pos (show (i : Int) < (l.length : Int) by omega), ckF (show 0 < l.length by omega), bindT (getT (l := l) (n := l.length) (x := (x : Int)) (by omega) (by omega) (by rw [Int.toNat_natCast]; exact hx)), bindT hraw, bindT e1, bindT (getNd2 (⟨0, 0, []⟩ : ValT) h4.len hx24), ckF (by constructor <;> omega), Int.toNat_natCast]
    obtain ⟨E', v', e2, q1, q2, q3⟩ := ih (i + 1) g (E.set x (cvOf (rw_ rs x) E)) { M with v := v1 } (by omega) (by omega) h3 hE' (by
      intro c hc hm
      rw [vl_set h4.len hx24, if_neg (fun q => by subst q; omega)]
      exact h5 c hc hm) (by
      intro j y hj hy
      obtain ⟨y', hyy, hy24, hLy⟩ := hO j _ hy
      have : y' = y := by omega
      subst this
      by_cases hyx : y' = x
      · subst hyx
        rw [vl_set h4.len hx24, if_pos rfl, keep y' hx24 hLx (Int.le_refl _)]
      · have hji : j ≠ i := fun q => by
          subst q
          rw [hx] at hy
          injection hy with hy
          exact hyx (by omega)
        rw [vl_set h4.len hx24, if_neg hyx, keep y' hy24 hLy (hs j i y' x (by omega) hy hx)]
        exact h6 j y' (by omega) hy)
    exact ⟨E', v', e2, q1, q2, q3⟩
theorem l114_4_ok {n : Nat} (r21 : KMS × GMS) (G : GMS) (z : BitVec 32) : ∀ (m i g : Nat) (E : List ValT), i + m = 24 → m < g → EnvOk E → ∃ E', l114_4 n r21 (G, z) g (i : Int) E = ((s136 n G (4294967295 : BitVec 32)).bind fun r81 => l114_3 n r81 n (0 : Int) E' r21.1) ∧ EnvOk E' ∧ ∀ c, c < 24 → vl E' c = if i ≤ c ∧ z.getLsbD c = true then ecyc else vl E c := by
  intro m
  induction m with
  | zero =>
    intro i g E h1 h2 h3
    obtain ⟨g, rfl⟩ : ∃ g', g = g' + 1 := ⟨g - 1, by omega⟩
    refine ⟨E, ?_, h3, fun c hc => by rw [if_neg (by omega)]⟩
    show l114_4_st n r21 (G, z) (l114_4 n r21 (G, z) g) (i : Int) E = _
    unfold l114_4_st
    rw [if_neg (by omega)]
  | succ m ih =>
    intro i g E h1 h2 h3
    obtain ⟨g, rfl⟩ : ∃ g', g = g' + 1 := ⟨g - 1, by omega⟩
    have hi : i < 24 := by omega
    show ∃ E', l114_4_st n r21 (G, z) (l114_4 n r21 (G, z) g) (i : Int) E = _ ∧ _
    unfold l114_4_st
    rw [if_pos (by omega)]
    have k2 : ∀ E, k114_2 (i : Int) (l114_4 n r21 (G, z) g) E = l114_4 n r21 (G, z) g ((i + 1 : Nat) : Int) E := by
      intro E
      unfold k114_2
      rw [ckF (by constructor <;> omega)]; rfl
    by_cases hb : z.getLsbD i = true
    · rw [if_neg (show ¬ ((z &&& s92 (i : Int)).toNat : Int) = 0 from fun q => by rw [(bit_and hi).1 q] at hb; cases hb), bindT (getNd2 (⟨0, 0, []⟩ : ValT) h3.len hi), k2, Int.toNat_natCast]
      obtain ⟨E', e1, e2, e3⟩ := ih (i + 1) g (E.set i ecyc) (by omega) (by omega) (h3.set okv_ecyc)
      refine ⟨E', e1, e2, fun c hc => ?_⟩
      rw [e3 c hc, vl_set h3.len hi]
      by_cases hci : c = i
      · subst hci
        rw [if_neg (by omega), if_pos rfl, if_pos ⟨Nat.le_refl _, hb⟩]
      · rw [if_neg hci]
        by_cases hq : i ≤ c ∧ z.getLsbD c = true
        · rw [if_pos hq, if_pos ⟨by omega, hq.2⟩]
        · rw [if_neg hq, if_neg (fun q => hq ⟨by omega, q.2⟩)]
    · rw [if_pos (show ((z &&& s92 (i : Int)).toNat : Int) = 0 from (bit_and hi).2 (by simpa using hb)), k2]
      obtain ⟨E', e1, e2, e3⟩ := ih (i + 1) g E (by omega) (by omega) h3
      refine ⟨E', e1, e2, fun c hc => ?_⟩
      rw [e3 c hc]
      by_cases hq : i ≤ c ∧ z.getLsbD c = true
      · have hci : c ≠ i := fun q => by subst q; exact hb hq.2
        rw [if_pos hq, if_pos ⟨by omega, hq.2⟩]
      · rw [if_neg hq, if_neg (fun q => hq ⟨by omega, q.2⟩)]
theorem env0 : EnvOk (List.replicate 24 dVal) := ⟨by simp, fun x hx => by rw [List.eq_of_mem_replicate hx]; exact okv_0⟩
theorem s114_ok {n : Nat} (hn : 1000 ≤ n) (M : KMS) (hr : Raws M.raw) : ∃ v E L, s114 n M = some { M with v := v, shown := E } ∧ LevR (rdb (RDof M.raw)) L ∧ Right M.raw L E := by
  obtain ⟨G, v, e1, hG⟩ := s134_ok hn hr
  have hall : All24 G.reads := by rw [hG]; exact RDof_all hr
  obtain ⟨l0, hl0, hL, hb⟩ := lev_ex hall
  obtain ⟨G2, z, e2, hG2, hz⟩ := s135_ok hn hall hL
  have hall2 : All24 G2.reads := by rw [hG2]; exact hall
  obtain ⟨l, e3, h1, h2, h3⟩ := s161_ok hn (S := { G2 with asks := IntKind.wrap .i64 (G2.asks + 1) }) hall2
  have h2' : LevR (rdb G.reads) (lv l) := by
    have : ({ G2 with asks := IntKind.wrap .i64 (G2.asks + 1) } : GMS).reads = G.reads := hG2
    rw [this] at h2; exact h2
  obtain ⟨E0, e4, hE0, hv0⟩ := l114_4_ok (n := n) ({ M with v := v }, G) G2 z 24 0 n (List.replicate 24 dVal) (by omega) (by omega) env0
  have hs136 : s136 n G2 (4294967295 : BitVec 32) = some ({ G2 with asks := IntKind.wrap .i64 (G2.asks + 1) }, ordAll l (4294967295 : BitVec 32) 24) := by
    unfold s136
    rw [bindT e3, ckF (by omega)]
  obtain ⟨o1, o2, o3, o4⟩ := ord_ok (L := lv l0) (l := l) (fun c hc => (lev_one hL h2' c hc).symm) hb
  have hL' : LevR (rdb (RDof M.raw)) (lv l0) := by rw [← hG]; exact hL
  obtain ⟨E, v', e5, q1, q2, q3⟩ := l114_3_ok hn hr hL' { G2 with asks := IntKind.wrap .i64 (G2.asks + 1) } o1 o3 (by omega) (ordAll l (4294967295 : BitVec 32) 24).length 0 n E0 { M with v := v } (by omega) (by omega) rfl hE0 (by
    intro c hc hm
    rw [hv0 c hc, if_pos ⟨Nat.zero_le _, (hz c hc).2 hm⟩]) (fun j x hj => by omega)
  refine ⟨v', E, lv l0, ?_, hL', q1, q2, fun c hc h0 => ?_⟩
  · unfold s114
    rw [bindT e1, bindT e2]
    refine e4.trans ?_
    rw [bindT hs136]
    exact e5
  · obtain ⟨i, hi⟩ := o2 c hc h0
    exact q3 i c hi
theorem s93_ok {n : Nat} (hn : 1000 ≤ n) {M : KMS} (hM : Raws M.raw) {c : Nat} (hc : c < 24) {raw : List UInt8} (hr : raw.length ≤ 40) : ∃ M' L, s93 n M (c : Int) raw = some (M', 0) ∧ KMInv M' L ∧ M'.raw = M.raw.set c raw := by
  obtain ⟨v, E, L, e, hL, hR⟩ := s114_ok hn { M with raw := (M.raw.set c raw), sets := (IntKind.wrap .i64 (M.sets + (1 : Int))) } (hM.set hr)
  refine ⟨⟨v, M.raw.set c raw, E, IntKind.wrap .i64 (M.sets + (1 : Int))⟩, L, ?_, ⟨hM.set hr, hL, hR⟩, rfl⟩
  unfold s93
  rw [if_neg (by omega), if_neg (by omega), if_neg (by omega), bindT (getNd2 [] hM.1 hc), Int.toNat_natCast, bindT e]
theorem shown_one {K : KS} {M : KMS} {L : Nat → Int} (hK : KInv K) (hM : KMInv M L) (h : K.raw = M.raw) : K.shown = M.shown := by
  have h1 := hK.net.lev
  rw [hK.reads, h] at h1
  have h2 := hK.right
  rw [h] at h2
  exact right_one hM.raws hM.lev (h2.congr (fun c hc => lev_one h1 hM.lev c hc)) hM.right
end Go.Proofs.Qxb6500272aGreat
