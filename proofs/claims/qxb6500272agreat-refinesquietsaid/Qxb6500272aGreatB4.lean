/-
  Plain laws, the document: the commands on both sides.
-/
import Derived.Test.Qxb6500272aGreatB3
namespace Go.Proofs.Qxb6500272aGreat
open Go
set_option linter.unusedVariables false
set_option linter.unusedSimpArgs false
def pastOf (hist : Nat → Snap) (u : Nat) : List Snap := (List.range u).map hist
def nextOf (hist : Nat → Snap) (u r : Nat) : List Snap := (List.range r).map fun i => hist (u + r - i)
/-- Both documents between their calls. -/
structure BC (B : BS) (M : BMS) : Prop where
  e : EP B.e M.e
  ring : ∃ hist u r b, RG B hist u r b ∧ B.e.k.raw = hist u ∧ M.past = pastOf hist u ∧ M.next = nextOf hist u r
theorem past_snoc (hist : Nat → Snap) (u : Nat) : pastOf hist (u + 1) = pastOf hist u ++ [hist u] := by
  unfold pastOf; rw [List.range_succ, List.map_append]; rfl
theorem past_len (hist : Nat → Snap) (u : Nat) : (pastOf hist u).length = u := by unfold pastOf; simp
theorem next_len (hist : Nat → Snap) (u r : Nat) : (nextOf hist u r).length = r := by unfold nextOf; simp
theorem past_congr {h1 h2 : Nat → Snap} {u : Nat} (h : ∀ k, k < u → h1 k = h2 k) : pastOf h1 u = pastOf h2 u := by
  unfold pastOf
  apply List.map_congr_left
  intro k hk
  exact h k (List.mem_range.1 hk)
theorem next_snoc (hist : Nat → Snap) (u r : Nat) : nextOf hist u (r + 1) = nextOf hist (u + 1) r ++ [hist (u + 1)] := by
  unfold nextOf
  rw [List.range_succ, List.map_append]
  congr 1
  · apply List.map_congr_left
    intro k hk
    rw [show u + (r + 1) - k = u + 1 + r - k by omega]
  · show [hist (u + (r + 1) - r)] = _
    rw [show u + (r + 1) - r = u + 1 by omega]
/-! ### The model's lists of texts -/
theorem l73_ok {n : Nat} {M : BMS} (hr : Raws M.e.k.raw) : ∀ (m i g : Nat) (a : Snap), i + m = 24 → m < g → a.length = 24 → (∀ j, j < i → rw_ a j = rw_ M.e.k.raw j) → l73_0 n M g (i : Int) a = some M.e.k.raw := by
  intro m
  induction m with
  | zero =>
    intro i g a h1 h2 h4 h5
    obtain ⟨g, rfl⟩ : ∃ g', g = g' + 1 := ⟨g - 1, by omega⟩
    show l73_0_st n M (l73_0 n M g) (i : Int) a = _
    unfold l73_0_st
    rw [if_neg (by omega), snap_ext h4 hr.1 (fun c hc => h5 c (by omega))]
  | succ m ih =>
    intro i g a h1 h2 h4 h5
    obtain ⟨g, rfl⟩ : ∃ g', g = g' + 1 := ⟨g - 1, by omega⟩
    have hi : i < 24 := by omega
    have hraw : s65 M.e (i : Int) = some (rw_ M.e.k.raw i) := by
      unfold s65
      exact bindR (s87_ok hr hi)
    show l73_0_st n M (l73_0 n M g) (i : Int) a = _
    unfold l73_0_st
    rw [if_pos (by omega), bindT hraw, bindT (getNd2 [] h4 hi), ckF (by constructor <;> omega), Int.toNat_natCast]
    exact ih (i + 1) g _ (by omega) (by omega) (by rw [List.length_set]; exact h4) (by
      intro j hj
      have : rw_ (a.set i (rw_ M.e.k.raw i)) j = if j = i then rw_ M.e.k.raw i else rw_ a j := getD_set _ _ (by rw [h4]; exact hi) j
      rw [this]
      by_cases hji : j = i
      · rw [if_pos hji, hji]
      · rw [if_neg hji]; exact h5 j (by omega))
theorem s73_ok {n : Nat} (hn : 1000 ≤ n) {M : BMS} (hr : Raws M.e.k.raw) : s73 n M = some M.e.k.raw :=
  l73_ok hr 24 0 n _ (by omega) (by omega) (by simp) (fun j hj => by omega)
theorem s33_ok {B : BS} (h : Raws B.e.k.raw) (c : Int) : s33 B c = some (rawAt B.e.k.raw c) := by
  unfold s33; exact bindR (s64_ok h c)
theorem s34_ok {M : BMS} (h : Raws M.e.k.raw) (c : Int) : s34 M c = some (rawAt M.e.k.raw c) := by
  unfold s34; exact bindR (s65_ok h c)
theorem rawAt_nat (rs : Snap) {c : Nat} (hc : c < 24) : rawAt rs (c : Int) = rw_ rs c := by
  unfold rawAt
  rw [if_neg (by omega), if_neg (by omega), Int.toNat_natCast]
theorem l47_ok {n : Nat} {M : BMS} (hr : Raws M.e.k.raw) : ∀ (m i g : Nat) (a : Snap), i + m = 24 → m < g → a.length = 24 → (∀ j, j < i → rw_ a j = rw_ M.e.k.raw j) → l47_0 n M g (i : Int) a = some M.e.k.raw := by
  intro m
  induction m with
  | zero =>
    intro i g a h1 h2 h4 h5
    obtain ⟨g, rfl⟩ : ∃ g', g = g' + 1 := ⟨g - 1, by omega⟩
    show l47_0_st n M (l47_0 n M g) (i : Int) a = _
    unfold l47_0_st
    rw [if_neg (by omega), snap_ext h4 hr.1 (fun c hc => h5 c (by omega))]
  | succ m ih =>
    intro i g a h1 h2 h4 h5
    obtain ⟨g, rfl⟩ : ∃ g', g = g' + 1 := ⟨g - 1, by omega⟩
    have hi : i < 24 := by omega
    have hraw : s34 M (i : Int) = some (rw_ M.e.k.raw i) := by rw [s34_ok hr, rawAt_nat _ hi]
    show l47_0_st n M (l47_0 n M g) (i : Int) a = _
    unfold l47_0_st
    rw [if_pos (by omega), bindT hraw, bindT (getNd2 [] h4 hi), ckF (by constructor <;> omega), Int.toNat_natCast]
    exact ih (i + 1) g _ (by omega) (by omega) (by rw [List.length_set]; exact h4) (by
      intro j hj
      have : rw_ (a.set i (rw_ M.e.k.raw i)) j = if j = i then rw_ M.e.k.raw i else rw_ a j := getD_set _ _ (by rw [h4]; exact hi) j
      rw [this]
      by_cases hji : j = i
      · rw [if_pos hji, hji]
      · rw [if_neg hji]; exact h5 j (by omega))
theorem s47_ok {n : Nat} (hn : 1000 ≤ n) {M : BMS} (hr : Raws M.e.k.raw) : s47 n M = some M.e.k.raw :=
  l47_ok hr 24 0 n _ (by omega) (by omega) (by simp) (fun j hj => by omega)
/-! ### The model's put -/
theorem l81_ok {n : Nat} (hn : 1000 ≤ n) {a : Snap} (ha : Raws a) : ∀ (m i g : Nat) (M : BMS), i + m = 24 → m < g → KM M.e.k → (∀ j, j < i → rw_ M.e.k.raw j = rw_ a j) → ∃ e, l81_0 n a 24 g (i : Int) M = some { M with e := e } ∧ KM e.k ∧ e.k.raw = a := by
  intro m
  induction m with
  | zero =>
    intro i g M h1 h2 h3 h4
    obtain ⟨g, rfl⟩ : ∃ g', g = g' + 1 := ⟨g - 1, by omega⟩
    refine ⟨M.e, ?_, h3, snap_ext h3.raws.1 ha.1 (fun c hc => h4 c (by omega))⟩
    show l81_0_st n a 24 (l81_0 n a 24 g) (i : Int) M = _
    unfold l81_0_st
    rw [if_neg (by omega)]
  | succ m ih =>
    intro i g M h1 h2 h3 h4
    obtain ⟨g, rfl⟩ : ∃ g', g = g' + 1 := ⟨g - 1, by omega⟩
    have hi : i < 24 := by omega
    obtain ⟨M1, e1, k1, r1⟩ := s74_ok hn h3 (i : Int) (rw_ a i)
    obtain ⟨g0, g1⟩ := setR_ok (rs := M.e.k.raw) hi (ha.at i)
    show ∃ e, l81_0_st n a 24 (l81_0 n a 24 g) (i : Int) M = _ ∧ _
    unfold l81_0_st
    rw [if_pos (by omega), bindT (getNd2 [] ha.1 hi)]
    rw [bindT (show s74 n M.e (i : Int) (a.getD i []) = _ from e1), ckF (by constructor <;> omega)]
    obtain ⟨e2, e3, k2, r2⟩ := ih (i + 1) g { M with e := M1 } (by omega) (by omega) k1 (by
      intro j hj
      show rw_ M1.k.raw j = _
      rw [r1, g1, rw_set h3.raws hi]
      by_cases hji : j = i
      · rw [if_pos hji, hji]
      · rw [if_neg hji]; exact h4 j (by omega))
    exact ⟨e2, e3, k2, r2⟩
theorem s81_ok {n : Nat} (hn : 1000 ≤ n) {a : Snap} (ha : Raws a) {M : BMS} (hM : KM M.e.k) : ∃ e, s81 n M a 24 = some { M with e := e } ∧ KM e.k ∧ e.k.raw = a :=
  l81_ok hn ha 24 0 n M (by omega) (by omega) hM (fun j hj => by omega)
theorem l81x_ok {n : Nat} (hn : 1000 ≤ n) {a : Snap} (ha : Raws a) : ∀ (m i g : Nat) (M : BXS), i + m = 24 → m < g → KM M.e.k → (∀ j, j < i → rw_ M.e.k.raw j = rw_ a j) → ∃ e, l81x_0 n a 24 g (i : Int) M = some { M with e := e } ∧ KM e.k ∧ e.k.raw = a := by
  intro m
  induction m with
  | zero =>
    intro i g M h1 h2 h3 h4
    obtain ⟨g, rfl⟩ : ∃ g', g = g' + 1 := ⟨g - 1, by omega⟩
    refine ⟨M.e, ?_, h3, snap_ext h3.raws.1 ha.1 (fun c hc => h4 c (by omega))⟩
    show l81x_0_st n a 24 (l81x_0 n a 24 g) (i : Int) M = _
    unfold l81x_0_st
    rw [if_neg (by omega)]
  | succ m ih =>
    intro i g M h1 h2 h3 h4
    obtain ⟨g, rfl⟩ : ∃ g', g = g' + 1 := ⟨g - 1, by omega⟩
    have hi : i < 24 := by omega
    obtain ⟨M1, e1, k1, r1⟩ := s74_ok hn h3 (i : Int) (rw_ a i)
    obtain ⟨g0, g1⟩ := setR_ok (rs := M.e.k.raw) hi (ha.at i)
    show ∃ e, l81x_0_st n a 24 (l81x_0 n a 24 g) (i : Int) M = _ ∧ _
    unfold l81x_0_st
    rw [if_pos (by omega), bindT (getNd2 [] ha.1 hi)]
    rw [bindT (show s74 n M.e (i : Int) (a.getD i []) = _ from e1), ckF (by constructor <;> omega)]
    obtain ⟨e2, e3, k2, r2⟩ := ih (i + 1) g { M with e := M1 } (by omega) (by omega) k1 (by
      intro j hj
      show rw_ M1.k.raw j = _
      rw [r1, g1, rw_set h3.raws hi]
      by_cases hji : j = i
      · rw [if_pos hji, hji]
      · rw [if_neg hji]; exact h4 j (by omega))
    exact ⟨e2, e3, k2, r2⟩
theorem s81x_ok {n : Nat} (hn : 1000 ≤ n) {a : Snap} (ha : Raws a) {M : BXS} (hM : KM M.e.k) : ∃ e, s81x n M a 24 = some { M with e := e } ∧ KM e.k ∧ e.k.raw = a :=
  l81x_ok hn ha 24 0 n M (by omega) (by omega) hM (fun j hj => by omega)
/-! ### A command -/
theorem BC.raws {B : BS} {M : BMS} (h : BC B M) : Raws B.e.k.raw := h.e.raws
theorem BC.rawsM {B : BS} {M : BMS} (h : BC B M) : Raws M.e.k.raw := h.e.rawsM
theorem BC.raw {B : BS} {M : BMS} (h : BC B M) : M.e.k.raw = B.e.k.raw := h.e.raw
/-- What the model's past becomes. -/
def donePast (past : List Snap) (was : Snap) : List Snap := if 6 < past.length + 1 then (past ++ [was]).tail else past ++ [was]
theorem note_both {n : Nat} (hn : 1000 ≤ n) {B : BS} {M : BMS} (h : BC B M) {e : ES} {me : EMS} (he : EP e me) :
    ∃ B' , s72 n { B with was := B.e.k.raw, e := e } = some B' ∧ B'.e = e ∧ s75 { M with e := me } M.e.k.raw = some { M with e := me, past := donePast M.past M.e.k.raw, next := [] } ∧ BC B' { M with e := me, past := donePast M.past M.e.k.raw, next := [] } ∧ M.past.length ≤ 6 := by
  obtain ⟨hist, u, r, b, hR, hcur, hp, hx⟩ := h.ring
  have hur := hR.ur
  have hlen : M.past.length = u := by rw [hp, past_len]
  have hR1 : RG { B with was := B.e.k.raw, e := e } hist u r b := (hR.was (w := B.e.k.raw) h.raws.1).e e
  obtain ⟨B', hist', u', b', e1, e2, e3, e4, e5⟩ := s72_ok hn hR1 (now := e.k.raw) he.raws hcur rfl
  refine ⟨B', e1, e2, ?_, ⟨?_, hist', u', 0, b', e3, ?_, ?_, ?_⟩, by omega⟩
  · unfold s75
    rw [ckF (by show M.past.length < 900; omega)]
    rfl
  · rw [e2]; exact he
  · rw [e2]; exact e4.symm
  · show donePast M.past M.e.k.raw = _
    have hraw : M.e.k.raw = hist u := by rw [h.raw, hcur]
    unfold donePast
    rw [hlen]
    rcases e5 with ⟨p1, p2, p3⟩ | ⟨p1, p2, p3⟩
    · rw [if_neg (by omega), p2, past_snoc, hp, hraw, p3 u (Nat.le_refl _)]
      congr 1
      exact past_congr (fun k hk => (p3 k (by omega)).symm)
    · subst p1
      rw [if_pos (by omega), hp, hraw, ← past_snoc, p2]
      unfold pastOf
      rw [show (List.range 7) = 0 :: (List.range 6).map (· + 1) by rfl]
      rw [List.map_cons, List.tail_cons, List.map_map]
      apply List.map_congr_left
      intro k hk
      have := List.mem_range.1 hk
      exact (p3 k (by omega)).symm
  · show ([] : List Snap) = _
    rfl
theorem fail_both {B : BS} {M : BMS} (h : BC B M) {e : ES} {me : EMS} (he : EP e me) (hk : e.k.raw = B.e.k.raw) : BC { B with was := B.e.k.raw, e := e } { M with e := me } := by
  obtain ⟨hist, u, r, b, hR, hcur, hp, hx⟩ := h.ring
  exact ⟨he, hist, u, r, b, (hR.was (w := B.e.k.raw) h.raws.1).e e, by show e.k.raw = _; rw [hk]; exact hcur, hp, hx⟩
/-- What a command does to both documents and to the law's ring. -/
structure CmdR (B : BS) (M : BMS) (B' : BS) (M' : BMS) (c : Int) : Prop where
  ok : BC B' M'
  good : c = 0 → M'.past = donePast M.past M.e.k.raw ∧ M'.next = [] ∧ M.past.length ≤ 6
  bad : c ≠ 0 → M'.past = M.past ∧ M'.next = M.next ∧ B'.e.k.raw = B.e.k.raw
theorem setCmd {n : Nat} (hn : 1000 ≤ n) {B : BS} {M : BMS} (h : BC B M) (c : Int) (t : List UInt8) : ∃ B' M' e, s48 n B c t = some (B', e) ∧ s49 n M c t = some (M', e) ∧ CmdR B M B' M' e ∧ (e = 0 → t.length ≤ 40 ∧ ∃ c' : Nat, c = (c' : Int) ∧ c' < 24 ∧ B'.e.k.raw = B.e.k.raw.set c' t) := by
  unfold s48 s49
  by_cases h1 : (40 : Int) < (t.length : Int)
  · rw [if_pos h1, if_pos h1]
    exact ⟨B, M, 1, rfl, rfl, ⟨h, fun h => absurd h (by decide), fun _ => ⟨rfl, rfl, rfl⟩⟩, fun h => absurd h (by decide)⟩
  rw [if_neg h1, if_neg h1, bindT (s70_ok hn h.raws (by obtain ⟨_, _, _, _, hR, _⟩ := h.ring; exact hR.wl)), bindT (s73_ok hn h.rawsM)]
  obtain ⟨e', e1, k1, r1⟩ := s71_ok hn h.e.er c t
  obtain ⟨me', e2, k2, r2⟩ := s74_ok hn h.e.m c t
  have hEP : EP e' me' := ⟨k1.e, k1.emp, k2, by rw [r1, r2, h.raw]⟩
  rw [bindT (show s71 n ({ B with was := B.e.k.raw } : BS).e c t = _ from e1), bindT e2]
  by_cases h0 : setE c t = 0
  · rw [if_pos h0, if_pos h0]
    obtain ⟨B', f1, f2, f3, f4, f5⟩ := note_both hn h hEP
    rw [bindT f1, bindT f3]
    refine ⟨B', _, setE c t, rfl, rfl, ⟨f4, fun _ => ⟨rfl, rfl, f5⟩, fun hne => absurd h0 hne⟩, fun _ => ⟨by omega, ?_⟩⟩
    have hc : 0 ≤ c ∧ c < 24 := by
      unfold setE at h0
      rw [if_neg h1] at h0
      by_cases q1 : c < 0
      · rw [if_pos q1] at h0; omega
      · rw [if_neg q1] at h0
        by_cases q2 : 24 ≤ c
        · rw [if_pos q2] at h0; omega
        · omega
    refine ⟨c.toNat, by omega, by omega, ?_⟩
    rw [f2, r1]
    unfold setR
    rw [if_pos h0]
  · rw [if_neg h0, if_neg h0]
    have hr : e'.k.raw = B.e.k.raw := by rw [r1]; unfold setR; rw [if_neg h0]
    exact ⟨_, _, setE c t, rfl, rfl, ⟨fail_both h hEP hr, fun h => absurd h h0, fun _ => ⟨rfl, rfl, hr⟩⟩, fun h => absurd h h0⟩
theorem editCmd {n : Nat} (hn : 1000 ≤ n) {B : BS} {M : BMS} (h : BC B M) (k a : Int) : ∃ B' M' e, s50 n B k a = some (B', e) ∧ s51 n M k a = some (M', e) ∧ CmdR B M B' M' e := by
  unfold s50 s51
  rw [bindT (s70_ok hn h.raws (by obtain ⟨_, _, _, _, hR, _⟩ := h.ring; exact hR.wl)), bindT (s73_ok hn h.rawsM)]
  obtain ⟨e', me', e, e1, e2, hEP, hf⟩ := s76_ok hn h.e k a
  rw [bindT (show s76 n ({ B with was := B.e.k.raw } : BS).e k a = _ from e1), bindT e2]
  by_cases h0 : e = 0
  · rw [if_pos h0, if_pos h0]
    obtain ⟨B', f1, f2, f3, f4, f5⟩ := note_both hn h hEP
    rw [bindT f1, bindT f3]
    exact ⟨B', _, e, rfl, rfl, ⟨f4, fun _ => ⟨rfl, rfl, f5⟩, fun hne => absurd h0 hne⟩⟩
  · rw [if_neg h0, if_neg h0]
    exact ⟨_, _, e, rfl, rfl, ⟨fail_both h hEP (hf h0), fun h => absurd h h0, fun _ => ⟨rfl, rfl, hf h0⟩⟩⟩
theorem copyCmd {n : Nat} (hn : 1000 ≤ n) {B : BS} {M : BMS} (h : BC B M) (k a : Int) : ∃ B' M' e, s52 n B k a = some (B', e) ∧ s53 n M k a = some (M', e) ∧ CmdR B M B' M' e := by
  unfold s52 s53
  rw [bindT (s70_ok hn h.raws (by obtain ⟨_, _, _, _, hR, _⟩ := h.ring; exact hR.wl)), bindT (s73_ok hn h.rawsM)]
  obtain ⟨e', me', e, e1, e2, hEP, hf⟩ := s78_ok hn h.e k a
  rw [bindT (show s78 n ({ B with was := B.e.k.raw } : BS).e k a = _ from e1), bindT e2]
  by_cases h0 : e = 0
  · rw [if_pos h0, if_pos h0]
    obtain ⟨B', f1, f2, f3, f4, f5⟩ := note_both hn h hEP
    rw [bindT f1, bindT f3]
    exact ⟨B', _, e, rfl, rfl, ⟨f4, fun _ => ⟨rfl, rfl, f5⟩, fun hne => absurd h0 hne⟩⟩
  · rw [if_neg h0, if_neg h0]
    exact ⟨_, _, e, rfl, rfl, ⟨fail_both h hEP (hf h0), fun h => absurd h h0, fun _ => ⟨rfl, rfl, hf h0⟩⟩⟩
/-! ### Undo and Redo -/
theorem undoCmd {n : Nat} (hn : 1000 ≤ n) {B : BS} {M : BMS} (h : BC B M) :
    (M.past = [] ∧ s56 n B = some (B, 11) ∧ s57 n M = some (M, 11)) ∨
    (∃ hp : M.past ≠ [], ∃ B' M', s56 n B = some (B', 0) ∧ s57 n M = some (M', 0) ∧ BC B' M' ∧ B'.e.k.raw = M.past.getLast hp ∧ M'.past = M.past.dropLast ∧ M'.next = M.next ++ [M.e.k.raw] ∧ M.past.length ≤ 6 ∧ M.next.length ≤ 6) := by
  obtain ⟨hist, u, r, b, hR, hcur, hp, hx⟩ := h.ring
  have hur := hR.ur
  have hun := hR.un
  have hre := hR.re
  cases u with
  | zero =>
    left
    have hp0 : M.past = [] := by rw [hp]; rfl
    refine ⟨hp0, ?_, ?_⟩
    · unfold s56; rw [if_pos (by rw [hun]; rfl)]
    · unfold s57; rw [dif_pos hp0]
  | succ u =>
    right
    have hps : M.past = pastOf hist u ++ [hist u] := by rw [hp, past_snoc]
    have hne : M.past ≠ [] := by rw [hps]; simp
    have hlast : M.past.getLast hne = hist u := by simp [hps]
    have hs := s43_ok (B := { B with undos := B.undos - 1, redos := B.redos + 1 }) (k := u) hR.base hR.b6 (by omega)
    obtain ⟨e', f1, f2, f3⟩ := s80_ok hn (B := { B with undos := B.undos - 1, redos := B.redos + 1 }) (s := (b + u) % 6) (by omega) (z := 0) (by omega) hR.pl hR.tl (hR.raws u) (hR.raws (u + 1)) (hR.recs u (by omega)) h.e.er (by rw [if_pos rfl]; exact hcur)
    rw [if_pos rfl] at f3
    obtain ⟨me', g1, g2, g3⟩ := s81x_ok hn (a := M.past.getLast hne) (by rw [hlast]; exact hR.raws u) (M := ⟨M.e, .slice none 0 0, .slice none 0 0⟩) h.e.m
    have hl1 : M.past.length = u + 1 := by rw [hp, past_len]
    have hl2 : M.next.length = r := by rw [hx, next_len]
    have hraw : M.e.k.raw = hist (u + 1) := by rw [h.raw, hcur]
    refine ⟨hne, { B with undos := B.undos - 1, redos := B.redos + 1, e := e' }, { M with e := me', past := M.past.dropLast, next := M.next ++ [M.e.k.raw] }, ?_, ?_, ⟨⟨f2.e, f2.emp, g2, by rw [g3, f3, hlast]⟩, hist, u, r + 1, b, ?_, f3, ?_, ?_⟩, by rw [hlast]; exact f3, rfl, rfl, by omega, by omega⟩
    · unfold s56
      have f1 : s80 n { B with undos := B.undos - 1, redos := B.redos + 1 } (((b + u) % 6 : Nat) : Int) (0 : Int) = some { B with undos := B.undos - 1, redos := B.redos + 1, e := e' } := f1
      rw [if_neg (by omega), ckF (by constructor <;> omega), ckF (by constructor <;> omega), show B.undos - 1 = (u : Int) by omega]
      rw [show B.undos - 1 = (u : Int) by omega] at hs f1
      rw [bindT hs, bindT f1]
    · unfold s57
      rw [dif_neg hne, bindT (s73_ok hn h.rawsM), ckF (by omega), bindT g1]
    · exact ⟨hR.pl, hR.tl, hR.wl, hR.ol, hR.base, hR.b6, by show B.undos - 1 = _; omega, by show B.redos + 1 = _; omega, by omega, hR.raws, hR.recs, fun k hk => by rw [hR.tail k (by omega), show u + (r + 1) = u + 1 + r by omega]⟩
    · show M.past.dropLast = _
      rw [hps]; simp
    · show M.next ++ [M.e.k.raw] = _
      rw [next_snoc, hx, hraw]
theorem redoCmd {n : Nat} (hn : 1000 ≤ n) {B : BS} {M : BMS} (h : BC B M) :
    (M.next = [] ∧ s59 n B = some (B, 11) ∧ s60 n M = some (M, 11)) ∨
    (∃ hp : M.next ≠ [], ∃ B' M', s59 n B = some (B', 0) ∧ s60 n M = some (M', 0) ∧ BC B' M' ∧ B'.e.k.raw = M.next.getLast hp ∧ M'.next = M.next.dropLast ∧ M'.past = M.past ++ [M.e.k.raw] ∧ M.past.length ≤ 5 ∧ M.next.length ≤ 6) := by
  obtain ⟨hist, u, r, b, hR, hcur, hp, hx⟩ := h.ring
  have hur := hR.ur
  have hun := hR.un
  have hre := hR.re
  cases r with
  | zero =>
    left
    have hp0 : M.next = [] := by rw [hx]; rfl
    refine ⟨hp0, ?_, ?_⟩
    · unfold s59; rw [if_pos (by rw [hre]; rfl)]
    · unfold s60; rw [dif_pos hp0]
  | succ r =>
    right
    have hps : M.next = nextOf hist (u + 1) r ++ [hist (u + 1)] := by rw [hx, next_snoc]
    have hne : M.next ≠ [] := by rw [hps]; simp
    have hlast : M.next.getLast hne = hist (u + 1) := by simp [hps]
    have hs := s43_ok (B := B) (k := u) hR.base hR.b6 (by omega)
    rw [← hun] at hs
    obtain ⟨e', f1, f2, f3⟩ := s80_ok hn (B := B) (s := (b + u) % 6) (by omega) (z := 1) (by omega) hR.pl hR.tl (hR.raws u) (hR.raws (u + 1)) (hR.recs u (by omega)) h.e.er (by rw [if_neg (by decide)]; exact hcur)
    rw [if_neg (by decide)] at f3
    obtain ⟨me', g1, g2, g3⟩ := s81x_ok hn (a := M.next.getLast hne) (by rw [hlast]; exact hR.raws (u + 1)) (M := ⟨M.e, .slice none 0 0, .slice none 0 0⟩) h.e.m
    have hl1 : M.past.length = u := by rw [hp, past_len]
    have hl2 : M.next.length = r + 1 := by rw [hx, next_len]
    have hraw : M.e.k.raw = hist u := by rw [h.raw, hcur]
    refine ⟨hne, { B with e := e', undos := B.undos + 1, redos := B.redos - 1 }, { M with e := me', next := M.next.dropLast, past := M.past ++ [M.e.k.raw] }, ?_, ?_, ⟨⟨f2.e, f2.emp, g2, by rw [g3, f3, hlast]⟩, hist, u + 1, r, b, ?_, f3, ?_, ?_⟩, by rw [hlast]; exact f3, rfl, rfl, by omega, by omega⟩
    · unfold s59
      rw [if_neg (by omega), bindT hs]
      rw [bindT (show s80 n B (((b + u) % 6 : Nat) : Int) (1 : Int) = _ from f1), ckF (by show i64ok (B.undos + 1); constructor <;> omega), ckF (by show i64ok (B.redos - 1); constructor <;> omega)]
    · unfold s60
      rw [dif_neg hne, bindT (s73_ok hn h.rawsM), ckF (by omega), bindT g1]
    · exact ⟨hR.pl, hR.tl, hR.wl, hR.ol, hR.base, hR.b6, by show B.undos + 1 = _; omega, by show B.redos - 1 = _; omega, by omega, hR.raws, hR.recs, fun k hk => by rw [hR.tail k (by omega), show u + 1 + r = u + (r + 1) by omega]⟩
    · show M.past ++ [M.e.k.raw] = _
      rw [past_snoc, hp, hraw]
    · show M.next.dropLast = _
      rw [hps]; simp
end Go.Proofs.Qxb6500272aGreat
