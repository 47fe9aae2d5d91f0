/-
  Plain laws: the law's desk: every step compares alike.
-/
import Derived.Test.Qxb6500272aGreatB5
namespace Go.Proofs.Qxb6500272aGreat
open Go
set_option linter.unusedVariables false
set_option linter.unusedSimpArgs false
structure DC (B : BS) (M : BMS) (D : DS) : Prop where
  bc : BC B M
  past : D.past = M.past
  next : D.next = M.next
  text : D.text.length ≤ 1057
  fresh : D.fresh = true → D.saved = saveL B.e.k.raw 24 0
theorem BC.out {B : BS} {M : BMS} (h : BC B M) {O : List Int} (hO : O.length = 1056) : BC { B with out := O } M := by
  obtain ⟨hist, u, r, b, hR, hcur, hp, hx⟩ := h.ring
  exact ⟨h.e, hist, u, r, b, ⟨hR.pl, hR.tl, hR.wl, hO, hR.base, hR.b6, hR.un, hR.re, hR.ur, hR.raws, hR.recs, hR.tail⟩, hcur, hp, hx⟩
theorem BC.outl {B : BS} {M : BMS} (h : BC B M) : B.out.length = 1056 := by
  obtain ⟨_, _, _, _, hR, _⟩ := h.ring; exact hR.ol
theorem BC.lens {B : BS} {M : BMS} (h : BC B M) : M.past.length ≤ 6 ∧ M.next.length ≤ 6 ∧ B.undos = (M.past.length : Int) ∧ B.redos = (M.next.length : Int) := by
  obtain ⟨hist, u, r, b, hR, hcur, hp, hx⟩ := h.ring
  have := hR.ur
  rw [hp, hx, past_len, next_len]
  exact ⟨by omega, by omega, hR.un, hR.re⟩
theorem s19_ok {B : BS} {M : BMS} (h : BC B M) (c : Int) : s19 B M c = some true := by
  unfold s19
  rw [bindT (s33_ok h.raws c), bindT (s34_ok h.rawsM c), h.raw]
  simp
theorem s20_ok {B : BS} {M : BMS} (h : BC B M) (c : Int) : s20 B M c = some true := by
  unfold s20 s35 s36
  obtain ⟨v, e1, e2⟩ := s66_ok h.e c
  have a : ((s66 B.e c).bind fun r22 => some r22) = some v := bindR e1
  have b : ((s67 M.e c).bind fun r22 => some r22) = some v := bindR e2
  rw [bindT a, bindT b, (eqVal v v).2 rfl]
theorem s21_ok {B : BS} {M : BMS} {D : DS} (h : DC B M D) : s21 B M D = true := by
  obtain ⟨_, _, h1, _⟩ := h.bc.lens
  unfold s21 s37 s38
  rw [h.past, h1]
  simp
theorem s22_ok {B : BS} {M : BMS} {D : DS} (h : DC B M D) : s22 B M D = true := by
  obtain ⟨_, _, _, h1⟩ := h.bc.lens
  unfold s22 s39 s40
  rw [h.next, h1]
  simp
theorem s23_ok {n : Nat} (hn : 1000 ≤ n) {B : BS} {M : BMS} (h : BC B M) : ∃ O, s23 n B M = some ({ B with out := O }, saveL B.e.k.raw 24 0, true) ∧ O.length = 1056 := by
  obtain ⟨O, e, hO⟩ := s41_ok hn h.raws h.outl
  refine ⟨O, ?_, hO⟩
  unfold s23
  rw [bindT e, bindT (s42_ok hn h.rawsM), h.raw]
  simp
theorem s24_bc {n : Nat} (hn : 1000 ≤ n) {B : BS} {M : BMS} (h : BC B M) : s24 n B = some true := by
  obtain ⟨hist, u, r, b, hR, hcur, hp, hx⟩ := h.ring
  exact s24_ok hn hR hcur
theorem DC.out {B : BS} {M : BMS} {D : DS} (h : DC B M D) {O : List Int} (hO : O.length = 1056) : DC { B with out := O } M D := ⟨h.bc.out hO, h.past, h.next, h.text, h.fresh⟩
/-- Alike. -/
theorem s10_ok {n : Nat} (hn : 2000 ≤ n) {B : BS} {M : BMS} {D : DS} (h : DC B M D) : ∃ B', s10 n B M D = some (B', true) ∧ DC B' M D := by
  have loop : ∀ (m : Nat) (x : Int) (g : Nat), x + m = 25 → m < g → m ≤ 100 → ∃ B', l10_0 n B M D g x = some (B', true) ∧ DC B' M D := by
    intro m
    induction m with
    | zero =>
      intro x g h1 h2 h9
      obtain ⟨g, rfl⟩ : ∃ g', g = g' + 1 := ⟨g - 1, by omega⟩
      obtain ⟨O, e, hO⟩ := s23_ok (by omega : 1000 ≤ n) h.bc
      refine ⟨{ B with out := O }, ?_, h.out hO⟩
      show l10_0_st n B M D (l10_0 n B M D g) x = _
      unfold l10_0_st
      rw [if_neg (by omega), if_pos (s21_ok h), if_pos (s22_ok h), bindT e, if_pos rfl, bindT (s24_bc (by omega) (h.bc.out hO))]
    | succ m ih =>
      intro x g h1 h2 h9
      obtain ⟨g, rfl⟩ : ∃ g', g = g' + 1 := ⟨g - 1, by omega⟩
      obtain ⟨B', e, hB⟩ := ih (x + 1) g (by omega) (by omega) (by omega)
      refine ⟨B', ?_, hB⟩
      show l10_0_st n B M D (l10_0 n B M D g) x = _
      unfold l10_0_st
      rw [if_pos (by omega), bindT (s19_ok h.bc x), if_pos rfl, bindT (s20_ok h.bc x), if_pos rfl, ckF (by constructor <;> omega)]
      exact e
  exact loop 26 (-1) n (by omega) (by omega) (by omega)
theorem s58_ok {n : Nat} (hn : 1000 ≤ n) {B : BS} (hr : Raws B.e.k.raw) {a : Snap} (ha : a = B.e.k.raw) : s58 n B a 24 = some true := by
  subst ha
  have loop : ∀ (m i g : Nat), i + m = 24 → m < g → l58_0 n B B.e.k.raw 24 g (i : Int) = some true := by
    intro m
    induction m with
    | zero =>
      intro i g h1 h2
      obtain ⟨g, rfl⟩ : ∃ g', g = g' + 1 := ⟨g - 1, by omega⟩
      show l58_0_st n B B.e.k.raw 24 (l58_0 n B B.e.k.raw 24 g) (i : Int) = _
      unfold l58_0_st
      rw [if_neg (by omega)]
    | succ m ih =>
      intro i g h1 h2
      obtain ⟨g, rfl⟩ : ∃ g', g = g' + 1 := ⟨g - 1, by omega⟩
      have hi : i < 24 := by omega
      have h1 : getN B.e.k.raw 24 (i : Int) = some (rw_ B.e.k.raw i) := getNd2 [] hr.1 hi
      show l58_0_st n B B.e.k.raw 24 (l58_0 n B B.e.k.raw 24 g) (i : Int) = _
      unfold l58_0_st
      rw [if_pos (by omega), bindT h1, bindT (s33_ok hr (i : Int)), rawAt_nat _ hi, if_pos (by simp), ckF (by constructor <;> omega)]
      exact ih (i + 1) g (by omega) (by omega)
  exact loop 24 0 n (by omega) (by omega)
theorem s55_ok {n : Nat} (hn : 1000 ≤ n) {B : BS} (hr : Raws B.e.k.raw) {was : Snap} (hw : Raws was) {c : Nat} (hc : c < 24) {t : List UInt8} (h : B.e.k.raw = was.set c t) : s55 n B was 24 (c : Int) t = some true := by
  have hat : ∀ j, rw_ B.e.k.raw j = if j = c then t else rw_ was j := fun j => by rw [h]; exact rw_set hw hc t j
  have loop : ∀ (m i g : Nat), i + m = 24 → m < g → l55_1 n B was 24 (c : Int) t g (i : Int) = some true := by
    intro m
    induction m with
    | zero =>
      intro i g h1 h2
      obtain ⟨g, rfl⟩ : ∃ g', g = g' + 1 := ⟨g - 1, by omega⟩
      show l55_1_st n B was 24 (c : Int) t (l55_1 n B was 24 (c : Int) t g) (i : Int) = _
      unfold l55_1_st
      rw [if_neg (by omega)]
    | succ m ih =>
      intro i g h1 h2
      obtain ⟨g, rfl⟩ : ∃ g', g = g' + 1 := ⟨g - 1, by omega⟩
      have hi : i < 24 := by omega
      have h1 : getN was 24 (i : Int) = some (rw_ was i) := getNd2 [] hw.1 hi
      have k0 : ∀ w, rw_ B.e.k.raw i = w → k55_0 B (i : Int) (l55_1 n B was 24 (c : Int) t g) w = some true := by
        intro w hw
        unfold k55_0
        rw [bindT (s33_ok hr (i : Int)), rawAt_nat _ hi, if_pos (by rw [hw]; simp), ckF (by constructor <;> omega)]
        exact ih (i + 1) g (by omega) (by omega)
      show l55_1_st n B was 24 (c : Int) t (l55_1 n B was 24 (c : Int) t g) (i : Int) = _
      unfold l55_1_st
      rw [if_pos (by omega), bindT h1]
      by_cases hic : i = c
      · rw [if_pos (by omega)]; exact k0 t (by rw [hat i, if_pos hic])
      · rw [if_neg (by omega)]; exact k0 _ (by rw [hat i, if_neg hic])
  exact loop 24 0 n (by omega) (by omega)
theorem s54_ok {D : DS} (h : D.past.length ≤ 6) (was : Snap) : s54 D was = some { D with past := donePast D.past was, fresh := false } := by
  unfold s54 donePast
  rw [ckF (by omega)]
  congr 2
  by_cases h6 : 6 ≤ D.past.length
  · rw [if_pos h6, if_pos (by omega), List.tail_append_of_ne_nil (fun e => by rw [e] at h6; simp at h6)]
  · rw [if_neg h6, if_neg (by omega)]
/-- Command's end. -/
theorem k27_ok {n : Nat} (hn : 1000 ≤ n) {B : BS} {M : BMS} {D : DS} (h : DC B M D) {B' : BS} {M' : BMS} {e : Int} (hc : CmdR B M B' M' e) (o : OpT) (raw : List UInt8) (hput : e = 0 → o.kind = 2 → ∃ c' : Nat, o.a = (c' : Int) ∧ c' < 24 ∧ B'.e.k.raw = B.e.k.raw.set c' raw) :
    ∃ D', k27_2 n D o raw M.e.k.raw e e M' B' = some (B', M', D', true) ∧ DC B' M' D' ∧ D'.quiet = D.quiet := by
  unfold k27_2
  rw [if_pos rfl]
  by_cases h0 : e = 0
  · obtain ⟨g1, g2, g3⟩ := hc.good h0
    rw [if_pos h0, bindT (s54_ok (by rw [h.past]; exact g3) _)]
    have hD : DC B' M' { { D with past := donePast D.past M.e.k.raw, fresh := false } with next := [] } := ⟨hc.ok, by rw [g1, ← h.past], by rw [g2], h.text, fun h => by cases h⟩
    by_cases hk : o.kind = 2
    · rw [if_pos hk]
      split
      · exact ⟨_, rfl, hD, rfl⟩
      · obtain ⟨c', q1, q2, q3⟩ := hput h0 hk
        rw [q1, h.bc.raw, bindT (s55_ok hn hc.ok.raws h.bc.raws q2 q3)]
        rw [← h.bc.raw]
        exact ⟨_, rfl, hD, rfl⟩
    · rw [if_neg hk]
      exact ⟨_, rfl, hD, rfl⟩
  · obtain ⟨g1, g2, g3⟩ := hc.bad h0
    rw [if_neg h0]
    exact ⟨D, rfl, ⟨hc.ok, by rw [g1, ← h.past], by rw [g2, ← h.next], h.text, fun hf => by rw [g3]; exact h.fresh hf⟩, rfl⟩
theorem s27_ok {n : Nat} (hn : 2000 ≤ n) {B : BS} {M : BMS} {D : DS} (h : DC B M D) (o : OpT) (raw : List UInt8) (hk : o.kind = 2 ∨ o.kind = 3 ∨ o.kind = 4) :
    ∃ B' M' D', s27 n B M D o raw = some (B', M', D', true) ∧ DC B' M' D' ∧ D'.quiet = D.quiet := by
  unfold s27
  rw [bindT (s47_ok (by omega) h.bc.rawsM)]
  by_cases h2 : o.kind = 2
  · obtain ⟨B', M', e, e1, e2, hc, hp⟩ := setCmd (by omega : 1000 ≤ n) h.bc o.a raw
    obtain ⟨D', e3, hD⟩ := k27_ok (n := n) (by omega) h hc o raw (fun h0 _ => (hp h0).2)
    rw [if_pos h2, bindT e1, bindT e2]
    exact ⟨B', M', D', e3, hD⟩
  · rw [if_neg h2]
    by_cases h3 : o.kind = 3
    · obtain ⟨B', M', e, e1, e2, hc⟩ := editCmd (by omega : 1000 ≤ n) h.bc o.a o.b
      obtain ⟨D', e3, hD⟩ := k27_ok (n := n) (by omega) h hc o raw (fun _ hk2 => absurd hk2 h2)
      rw [if_pos h3, bindT e1, bindT e2]
      exact ⟨B', M', D', e3, hD⟩
    · obtain ⟨B', M', e, e1, e2, hc⟩ := copyCmd (by omega : 1000 ≤ n) h.bc o.a o.b
      obtain ⟨D', e3, hD⟩ := k27_ok (n := n) (by omega) h hc o raw (fun _ hk2 => absurd hk2 h2)
      rw [if_neg h3, if_pos (by omega), bindT e1, bindT e2]
      exact ⟨B', M', D', e3, hD⟩
theorem getLast_congr {a b : List Snap} (h : a = b) (ha : a ≠ []) (hb : b ≠ []) : a.getLast ha = b.getLast hb := by subst h; rfl
theorem s28_ok {n : Nat} (hn : 2000 ≤ n) {B : BS} {M : BMS} {D : DS} (h : DC B M D) : ∃ B' M' D', s28 n B M D = some (B', M', D', true) ∧ DC B' M' D' ∧ D'.quiet = D.quiet := by
  unfold s28
  rw [bindT (s47_ok (by omega) h.bc.rawsM)]
  rcases undoCmd (by omega : 1000 ≤ n) h.bc with ⟨p1, p2, p3⟩ | ⟨hp, B', M', p2, p3, p4, p5, p6, p7, p8, p9⟩
  · rw [bindT p2, bindT p3, if_pos rfl, dif_pos (by rw [h.past]; exact p1)]
    exact ⟨B, M, D, rfl, h, rfl⟩
  · have hD : D.past ≠ [] := by rw [h.past]; exact hp
    rw [bindT p2, bindT p3, if_pos rfl, dif_neg hD, if_pos rfl, ckF (by rw [h.past, h.next]; omega), bindT (s58_ok (by omega) p4.raws (by rw [p5]; exact getLast_congr h.past hD hp))]
    exact ⟨B', M', _, rfl, ⟨p4, by show D.past.dropLast = _; rw [p6, h.past], by show D.next ++ _ = _; rw [p7, h.next], h.text, fun h => by cases h⟩, rfl⟩
theorem s29_ok {n : Nat} (hn : 2000 ≤ n) {B : BS} {M : BMS} {D : DS} (h : DC B M D) : ∃ B' M' D', s29 n B M D = some (B', M', D', true) ∧ DC B' M' D' ∧ D'.quiet = D.quiet := by
  unfold s29
  rw [bindT (s47_ok (by omega) h.bc.rawsM)]
  rcases redoCmd (by omega : 1000 ≤ n) h.bc with ⟨p1, p2, p3⟩ | ⟨hp, B', M', p2, p3, p4, p5, p6, p7, p8, p9⟩
  · rw [bindT p2, bindT p3, if_pos rfl, dif_pos (by rw [h.next]; exact p1)]
    exact ⟨B, M, D, rfl, h, rfl⟩
  · have hD : D.next ≠ [] := by rw [h.next]; exact hp
    have hl : D.past.length ≤ 5 := by rw [h.past]; exact p8
    rw [bindT p2, bindT p3, if_pos rfl, dif_neg hD, if_pos rfl, ckF (by rw [h.next]; omega), bindT (s54_ok (by show D.past.length ≤ 6; omega) _), bindT (s58_ok (by omega) p4.raws (by rw [p5]; exact getLast_congr h.next hD hp))]
    refine ⟨B', M', _, rfl, ⟨p4, ?_, ?_, h.text, fun h => by cases h⟩, rfl⟩
    · show donePast D.past M.e.k.raw = _
      unfold donePast
      rw [if_neg (by omega), p7, h.past]
    · show D.next.dropLast = _
      rw [p6, h.next]
/-- Loaded. -/
theorem s30_ok {n : Nat} (hn : 2000 ≤ n) {B : BS} {M : BMS} {D : DS} (h : DC B M D) (t : List UInt8) (still : Bool) (hst : still = true → t = saveL B.e.k.raw 24 0) (hfr : D.fresh = true → still = true ∧ t = D.saved) :
    ∃ B' M' D', s30 n B M D t still = some (B', M', D', true) ∧ DC B' M' D' ∧ D'.quiet = D.quiet := by
  unfold s30
  rw [bindT (s47_ok (by omega) h.bc.rawsM)]
  rcases loadCmd hn h.bc t with ⟨c, c0, p2, p3, p4⟩ | ⟨B', M', p2, p3, p4, p5, p6, p7, p8⟩
  · have hs : ¬ still = true := fun e => p4 _ h.bc.raws (hst e)
    rw [bindT p2, bindT p3, if_pos rfl, if_neg c0]
    unfold k30_2
    rw [if_neg hs]
    exact ⟨B, M, D, rfl, h, rfl⟩
  · have hD : DC B' M' { D with past := [], next := [] } := by
      refine ⟨p4, p5.symm, p6.symm, h.text, fun hf => ?_⟩
      obtain ⟨q1, q2⟩ := hfr hf
      show D.saved = _
      rw [p7, q2]
    have fin : ∀ B2 : BS, B2.e = B'.e → DC B2 M' { D with past := [], next := [] } → ∃ B3 M3 D3, k30_2 n still M.e.k.raw (B', 0) (M', 0) B2 { D with past := [], next := [] } = some (B3, M3, D3, true) ∧ DC B3 M3 D3 ∧ D3.quiet = D.quiet := by
      intro B2 he hB2
      unfold k30_2
      by_cases hs : still = true
      · rw [if_pos hs, if_pos rfl, bindT (s58_ok (by omega) hB2.bc.raws (by rw [he, h.bc.raw, p8 _ h.bc.raws (hst hs)]))]
        exact ⟨B2, M', _, rfl, hB2, rfl⟩
      · rw [if_neg hs]
        exact ⟨B2, M', _, rfl, hB2, rfl⟩
    rw [bindT p2, bindT p3, if_pos rfl, if_pos rfl]
    by_cases hq : D.quiet = true
    · rw [if_pos hq]
      exact fin B' rfl hD
    · obtain ⟨O, e, hO⟩ := s41_ok (by omega : 1000 ≤ n) p4.raws p4.outl
      rw [if_neg hq, bindT e, if_pos (by rw [p7]; simp)]
      exact fin { B' with out := O } rfl (hD.out hO)
theorem s25_ok {a s : List UInt8} {z : Nat} (hz : z ≤ 1056) (ha : a.length ≤ 1057) : ∃ r, s25 a s (z : Int) = some r ∧ (z = 1056 → r.length ≤ 1057) := by
  unfold s25
  rw [ckF (by constructor <;> omega), ckF (by constructor <;> omega)]
  by_cases h1 : (z : Int) + 1 - (a.length : Int) ≤ 0
  · rw [if_pos h1]
    exact ⟨a, rfl, fun _ => ha⟩
  rw [if_neg h1]
  have k0 : ∀ x : List UInt8, x.length ≤ z + 1 - a.length → ∃ r, k25_0 a x = some r ∧ (z = 1056 → r.length ≤ 1057) := by
    intro x hx
    unfold k25_0
    rw [ckF (by omega)]
    exact ⟨_, rfl, fun hz => by rw [List.length_append]; omega⟩
  by_cases h2 : (z : Int) + 1 - (a.length : Int) < (s.length : Int)
  · rw [if_pos h2, ckF (by omega)]
    exact k0 _ (by rw [List.length_take]; omega)
  · rw [if_neg h2]
    exact k0 _ (by omega)
theorem s26_ok {a s : List UInt8} {z : Nat} (hz : z ≤ 1056) (ha : a.length ≤ 1057) : ∃ r, s26 a s (z : Int) = some r := by
  unfold s26
  split
  · exact ⟨_, rfl⟩
  · obtain ⟨r, e, _⟩ := s25_ok (s := s) hz ha
    exact ⟨r, bindR e⟩
/-- Play. -/
theorem s11_ok {n : Nat} (hn : 2000 ≤ n) {B : BS} {M : BMS} {D : DS} (h : DC B M D) (o : OpT) : ∃ B' M' D', s11 n B M D o = some (B', M', D', true) ∧ DC B' M' D' ∧ D'.quiet = D.quiet := by
  have bind4 : ∀ {x : Option (BS × BMS × DS × Bool)} {B' M' D'}, x = some (B', M', D', true) → (x.bind fun r => some (r.1, r.2.1, r.2.2.1, r.2.2.2)) = some (B', M', D', true) := by
    intro x B' M' D' e; rw [e]; rfl
  unfold s11
  by_cases h1 : o.kind = 1
  · rw [if_pos h1]
    obtain ⟨r, e, hr⟩ := s25_ok (s := o.s) (z := 1056) (Nat.le_refl _) h.text
    rw [bindT (show s25 D.text o.s (1056 : Int) = some r from e)]
    exact ⟨B, M, _, rfl, ⟨h.bc, h.past, h.next, hr rfl, h.fresh⟩, rfl⟩
  rw [if_neg h1]
  by_cases h2 : o.kind = 2
  · rw [if_pos h2]
    obtain ⟨r, e⟩ := s26_ok (s := o.s) (z := 40) (by omega) h.text
    have hD : DC B M { D with text := [] } := ⟨h.bc, h.past, h.next, by show 0 ≤ 1057; omega, h.fresh⟩
    obtain ⟨B', M', D', e1, hD', hq⟩ := s27_ok hn hD o r (Or.inl h2)
    rw [bindT (show s26 D.text o.s (40 : Int) = some r from e), bind4 e1]
    exact ⟨B', M', D', rfl, hD', hq⟩
  rw [if_neg h2]
  by_cases h3 : o.kind = 3
  · rw [if_pos h3]
    obtain ⟨B', M', D', e1, hD', hq⟩ := s27_ok hn h o [] (Or.inr (Or.inl h3))
    rw [bind4 e1]
    exact ⟨B', M', D', rfl, hD', hq⟩
  rw [if_neg h3]
  by_cases h4 : o.kind = 4
  · rw [if_pos h4]
    obtain ⟨B', M', D', e1, hD', hq⟩ := s27_ok hn h o [] (Or.inr (Or.inr h4))
    rw [bind4 e1]
    exact ⟨B', M', D', rfl, hD', hq⟩
  rw [if_neg h4]
  by_cases h5 : o.kind = 5
  · rw [if_pos h5]
    obtain ⟨B', M', D', e1, hD', hq⟩ := s28_ok hn h
    rw [bind4 e1]
    exact ⟨B', M', D', rfl, hD', hq⟩
  rw [if_neg h5]
  by_cases h6 : o.kind = 6
  · rw [if_pos h6]
    obtain ⟨B', M', D', e1, hD', hq⟩ := s29_ok hn h
    rw [bind4 e1]
    exact ⟨B', M', D', rfl, hD', hq⟩
  rw [if_neg h6]
  by_cases h7 : o.kind = 7
  · rw [if_pos h7]
    obtain ⟨O, e, hO⟩ := s23_ok (by omega : 1000 ≤ n) h.bc
    rw [bindT e]
    exact ⟨_, M, _, rfl, ⟨h.bc.out hO, h.past, h.next, h.text, fun _ => rfl⟩, rfl⟩
  rw [if_neg h7]
  by_cases h8 : o.kind = 8
  · rw [if_pos h8]
    obtain ⟨r, e⟩ := s26_ok (s := o.s) (z := 1056) (Nat.le_refl _) h.text
    have hD : DC B M { D with text := [], fresh := false } := ⟨h.bc, h.past, h.next, by show 0 ≤ 1057; omega, fun h => by cases h⟩
    obtain ⟨B', M', D', e1, hD', hq⟩ := s30_ok hn hD r false (fun h => by cases h) (fun h => by cases h)
    rw [bindT (show s26 D.text o.s (1056 : Int) = some r from e), bind4 e1]
    exact ⟨B', M', D', rfl, hD', hq⟩
  rw [if_neg h8]
  by_cases h9 : o.kind = 9
  · rw [if_pos h9]
    obtain ⟨B', M', D', e1, hD', hq⟩ := s30_ok hn h D.saved D.fresh h.fresh (fun hf => ⟨hf, rfl⟩)
    rw [bind4 e1]
    exact ⟨B', M', D', rfl, hD', hq⟩
  rw [if_neg h9]
  by_cases h10 : o.kind = 10
  · rw [if_pos h10, bindT (s19_ok h.bc o.a)]
    exact ⟨B, M, D, rfl, h, rfl⟩
  rw [if_neg h10]
  by_cases h11 : o.kind = 11
  · rw [if_pos h11, bindT (s20_ok h.bc o.a)]
    exact ⟨B, M, D, rfl, h, rfl⟩
  rw [if_neg h11]
  by_cases h12 : o.kind = 12
  · rw [if_pos h12, s21_ok h]
    exact ⟨B, M, D, rfl, h, rfl⟩
  rw [if_neg h12]
  by_cases h13 : o.kind = 13
  · rw [if_pos h13, s22_ok h]
    exact ⟨B, M, D, rfl, h, rfl⟩
  rw [if_neg h13]
  by_cases h14 : o.kind = 14
  · rw [if_pos h14, bindT (s24_bc (by omega) h.bc)]
    exact ⟨B, M, D, rfl, h, rfl⟩
  rw [if_neg h14]
  exact ⟨B, M, D, rfl, h, rfl⟩
end Go.Proofs.Qxb6500272aGreat
