/-
  Plain laws, edits: texts turned; Edit and Copy on both sides.
-/
import Derived.Test.Qxb6500272aGreatE2
namespace Go.Proofs.Qxb6500272aGreat
open Go
set_option linter.unusedVariables false
set_option linter.unusedSimpArgs false
/-! ### Where a cell's text comes from -/
def srcChk (k c a : Nat) : Bool :=
  match s96 (s95 (k : Int) (a : Int)) (c : Int), s101 (c : Int) (k : Int) (a : Int) with
  | some s, some s' => decide (s = s') && (decide (s = -1) || (decide (0 ≤ s) && decide (s < 24)))
  | _, _ => false
theorem srcChk_ok {k c a : Nat} (h : srcChk k c a = true) : ∃ s : Int, s96 (s95 (k : Int) (a : Int)) (c : Int) = some s ∧ s101 (c : Int) (k : Int) (a : Int) = some s ∧ (s = -1 ∨ (0 ≤ s ∧ s < 24)) := by
  unfold srcChk at h
  split at h
  · rename_i s s' h1 h2
    simp only [Bool.and_eq_true, Bool.or_eq_true, decide_eq_true_eq] at h
    exact ⟨s, h1, by rw [h2, h.1], h.2⟩
  · cases h
theorem src1 : ∀ c, c < 24 → ∀ a, a < 6 → srcChk 1 c a = true := by decide +kernel
theorem src2 : ∀ c, c < 24 → ∀ a, a < 6 → srcChk 2 c a = true := by decide +kernel
theorem src3 : ∀ c, c < 24 → ∀ a, a < 4 → srcChk 3 c a = true := by decide +kernel
theorem src4 : ∀ c, c < 24 → ∀ a, a < 4 → srcChk 4 c a = true := by decide +kernel
theorem src_eq {k a : Int} {ins rows : Bool} {n : Int} (h : Ed k a ins rows n) {c : Nat} (hc : c < 24) : ∃ s : Int, s96 (s95 k a) (c : Int) = some s ∧ s101 (c : Int) k a = some s ∧ (s = -1 ∨ (0 ≤ s ∧ s < 24)) := by
  have ha := h.at_
  obtain ⟨b, rfl⟩ : ∃ b : Nat, a = (b : Int) := ⟨a.toNat, by omega⟩
  rcases h.kind with ⟨rfl, rfl, rfl, rfl⟩ | ⟨rfl, rfl, rfl, rfl⟩ | ⟨rfl, rfl, rfl, rfl⟩ | ⟨rfl, rfl, rfl, rfl⟩
  · exact srcChk_ok (k := 1) (src1 c hc b (by omega))
  · exact srcChk_ok (k := 2) (src2 c hc b (by omega))
  · exact srcChk_ok (k := 3) (src3 c hc b (by omega))
  · exact srcChk_ok (k := 4) (src4 c hc b (by omega))
/-! ### Texts turned -/
structure EF (S : ES) : Prop where
  f : FIdle S.f
  notes : S.f.notes.length = 24
  out : S.f.out.length = 288
/-- The editor's former has worked; the rest stays. -/
def KeepE (S S' : ES) : Prop := EF S' ∧ S'.k = S.k ∧ S'.buf = S.buf
def TurnA (n : Nat) (raw : List UInt8) : Prop :=
  (∀ S, EF S → ∃ S' t, s97 n S raw = some (S', t, false) ∧ KeepE S S') ∧ (∀ M : EMS, ∃ M' t, s102 n M raw = some (M', t, false) ∧ M'.k = M.k)
def TurnB (n : Nat) (raw : List UInt8) (φ : NodeT → NodeT) (t : TreeV) (T : List UInt8) : Prop :=
  TreeOK t ∧ 0 < t.nodes.length ∧ (∀ S, EF S → ∃ S', s97 n S raw = some (S', t, true) ∧ KeepE S S') ∧ (∀ S, EF S → ∃ S', s99 n S ⟨t.nodes.map φ, t.root, t.err, t.pos⟩ = some (S', T) ∧ KeepE S S') ∧
  (∀ M : EMS, ∃ M', s102 n M raw = some (M', t, true) ∧ M'.k = M.k) ∧ (∀ M : EMS, ∃ M', s104 n M ⟨t.nodes.map φ, t.root, 0, 0⟩ = some (M', T) ∧ M'.k = M.k)
theorem turn_ok {n : Nat} (hn : 1000 ≤ n) {φ : NodeT → NodeT} (hφ : Phi φ) (raw : List UInt8) : TurnA n raw ∨ ∃ t T, TurnB n raw φ t T := by
  by_cases h0 : raw = [] ∨ ¬ ((raw.getD (Int.toNat (0 : Int)) 0).toNat : Int) = 61
  · left
    constructor
    · intro S hS
      refine ⟨S, ⟨[], 0, 0, 0⟩, ?_, hS, rfl, rfl⟩
      unfold s97
      by_cases hn : raw = []
      · rw [if_pos (by rw [hn]; rfl)]
      · have hl := List.length_pos_iff.2 hn
        rw [if_neg (by omega), ckF (by omega), if_neg (by
          rcases h0 with h | h
          · exact absurd h hn
          · exact h)]
    · intro M
      refine ⟨M, ⟨[], 0, 0, 0⟩, ?_, rfl⟩
      unfold s102
      by_cases hn : raw = []
      · rw [if_pos (by rw [hn]; rfl)]
      · have hl := List.length_pos_iff.2 hn
        rw [if_neg (by simpa using hn), ckF (by omega), if_neg (by
          rcases h0 with h | h
          · exact absurd h hn
          · exact h)]
  · have hne : ¬ raw = [] := fun h => h0 (Or.inl h)
    have h61 : ((raw.getD (Int.toNat (0 : Int)) 0).toNat : Int) = 61 := by
      by_cases h : ((raw.getD (Int.toNat (0 : Int)) 0).toNat : Int) = 61
      · exact h
      · exact absurd (Or.inr h) h0
    have hl : 0 < raw.length := List.length_pos_iff.2 hne
    have real : ∀ S, EF S → ∃ S', s97 n S raw = some (S', PT (raw.drop 1), decide ((PT (raw.drop 1)).err = 0)) ∧ KeepE S S' := by
      intro S hS
      obtain ⟨F, e1, hF, h1, h2, h3⟩ := s115_ok n (by omega) S.f (raw.drop 1) hS.f
      refine ⟨{ S with f := F }, ?_, ⟨hF, by rw [h1]; exact hS.notes, by rw [h2]; exact hS.out⟩, rfl, rfl⟩
      unfold s97
      rw [if_neg (by omega), ckF (by omega), if_pos h61, ckF (by omega), bindT (show s115 n S.f (List.drop (Int.toNat (1 : Int)) raw) = _ from e1)]
    have model : ∀ M : EMS, ∃ M', s102 n M raw = some (M', PT (raw.drop 1), decide ((PT (raw.drop 1)).err = 0)) ∧ M'.k = M.k := by
      intro M
      refine ⟨{ M with f := { M.f with parses := IntKind.wrap .i64 (M.f.parses + 1), last := raw.drop 1 } }, ?_, rfl⟩
      unfold s102
      rw [if_neg (by simpa using hne), ckF (by omega), if_pos h61, ckF (by omega), bindT (show s120 n M.f (List.drop (Int.toNat (1 : Int)) raw) = _ from s120_ok n hn M.f (raw.drop 1))]
    by_cases hE : (PT (raw.drop 1)).err = 0
    · right
      have hT := PT_ok hE
      have hT2 := hT.map hφ
      obtain ⟨T, hTl, p1, p2⟩ := s123_ok (n := n) (by omega) hT2
      refine ⟨PT (raw.drop 1), [61] ++ T, hT, ?_, ?_, ?_, ?_, ?_⟩
      · obtain ⟨w, _, e2, _⟩ := hT.lw; omega
      · intro S hS
        obtain ⟨S', e, hk⟩ := real S hS
        rw [decide_eq_true hE] at e
        exact ⟨S', e, hk⟩
      · intro S hS
        obtain ⟨N, O, w, e, h1, h2⟩ := p2 S.f hS.notes hS.out
        refine ⟨{ S with f := { S.f with notes := N, out := O, w := w } }, ?_, ⟨⟨hS.f.tl, hS.f.al, hS.f.vl, hS.f.ol, hS.f.nt, hS.f.nn, hS.f.nv, hS.f.no⟩, h1, h2⟩, rfl, rfl⟩
        unfold s99
        rw [hT.err, hT.pos, bindT e, ckF (by simp only [List.length_singleton]; omega)]
      · intro M
        obtain ⟨M', e, hk⟩ := model M
        rw [decide_eq_true hE] at e
        exact ⟨M', e, hk⟩
      · intro M
        refine ⟨{ M with f := { M.f with prints := IntKind.wrap .i64 (M.f.prints + 1) } }, ?_, rfl⟩
        unfold s104
        rw [bindT (p1 M.f), ckF (by simp only [List.length_singleton]; omega)]
    · left
      constructor
      · intro S hS
        obtain ⟨S', e, hk⟩ := real S hS
        rw [decide_eq_false hE] at e
        exact ⟨S', _, e, hk⟩
      · intro M
        obtain ⟨M', e, hk⟩ := model M
        rw [decide_eq_false hE] at e
        exact ⟨M', _, e, hk⟩
/-! ### Laying texts -/
def stepRaw (rs : List (List UInt8)) (c : Nat) (t : List UInt8) : List (List UInt8) := if t.length ≤ 40 then rs.set c t else rs
def KM (M : KMS) : Prop := ∃ L, KMInv M L
theorem KM.raws {M : KMS} (h : KM M) : Raws M.raw := by obtain ⟨L, h⟩ := h; exact h.raws
theorem s90_step {n : Nat} (hn : 1000 ≤ n) {K : KS} (hK : KInv K) {c : Nat} (hc : c < 24) (t : List UInt8) : ∃ K' e, s90 n K (c : Int) t = some (K', e) ∧ KInv K' ∧ K'.raw = stepRaw K.raw c t ∧ e = (if t.length ≤ 40 then 0 else 1) := by
  unfold stepRaw
  by_cases ht : t.length ≤ 40
  · obtain ⟨K', e, h1, h2⟩ := s90_ok hn hK hc ht
    exact ⟨K', 0, e, h1, by rw [if_pos ht]; exact h2, by rw [if_pos ht]⟩
  · refine ⟨K, 1, ?_, hK, by rw [if_neg ht], by rw [if_neg ht]⟩
    unfold s90
    rw [if_pos (by omega)]
theorem s93_step {n : Nat} (hn : 1000 ≤ n) {M : KMS} (hM : KM M) {c : Nat} (hc : c < 24) (t : List UInt8) : ∃ M' e, s93 n M (c : Int) t = some (M', e) ∧ KM M' ∧ M'.raw = stepRaw M.raw c t ∧ e = (if t.length ≤ 40 then 0 else 1) := by
  unfold stepRaw
  by_cases ht : t.length ≤ 40
  · obtain ⟨M', L, e, h1, h2⟩ := s93_ok hn hM.raws hc ht
    exact ⟨M', 0, e, ⟨L, h1⟩, by rw [if_pos ht]; exact h2, by rw [if_pos ht]⟩
  · obtain ⟨L, hL⟩ := hM
    refine ⟨{ M with sets := IntKind.wrap .i64 (M.sets + 1) }, 1, ?_, ⟨L, hL.raws, hL.lev, hL.right⟩, by rw [if_neg ht], by rw [if_neg ht]⟩
    unfold s93
    rw [if_pos (by omega)]
theorem s86_ok {K : KS} (hK : Raws K.raw) {c : Nat} (hc : c < 24) : s86 K (c : Int) = some (rw_ K.raw c) := by
  unfold s86
  rw [if_neg (by omega), if_neg (by omega)]
  exact bindR (getNd2 [] hK.1 hc)
theorem s87_ok {M : KMS} (hM : Raws M.raw) {c : Nat} (hc : c < 24) : s87 M (c : Int) = some (rw_ M.raw c) := by
  unfold s87
  rw [if_neg (by omega), if_neg (by omega)]
  exact bindR (getNd2 [] hM.1 hc)
theorem s100_ok {n : Nat} (hn : 1000 ≤ n) {S : ES} (hS : KInv S.k) {c : Nat} (hc : c < 24) (t : List UInt8) : ∃ k', s100 n S (c : Int) t = some { S with k := k' } ∧ KInv k' ∧ k'.raw = stepRaw S.k.raw c t := by
  unfold s100
  rw [bindT (s86_ok hS.raws hc)]
  by_cases hq : rw_ S.k.raw c = t
  · rw [if_pos (by simpa using hq)]
    refine ⟨S.k, rfl, hS, ?_⟩
    unfold stepRaw
    rw [if_pos (by rw [← hq]; exact hS.raws.at c)]
    apply List.ext_getElem?
    intro j
    by_cases hj : j = c
    · subst hj
      have hl := hS.raws.1
      rw [List.getElem?_set_self (by omega), ← hq]
      unfold rw_
      rw [List.getD_eq_getElem?_getD, List.getElem?_eq_getElem (by omega)]; rfl
    · rw [List.getElem?_set_ne (fun e => hj e.symm)]
  · rw [if_neg (by simpa using hq)]
    obtain ⟨K', e, h1, h2, h3, _⟩ := s90_step hn hS hc t
    exact ⟨K', by rw [bindT h1], h2, h3⟩
/-- The editor between its calls. -/
structure EInv (S : ES) : Prop where
  ef : EF S
  k : KInv S.k
  buf : S.buf.length = 24
def stepAll (rs : List (List UInt8)) (nx : Nat → List UInt8) : Nat → Nat → List (List UInt8)
  | 0, _ => rs
  | m + 1, i => stepAll (stepRaw rs i (nx i)) nx m (i + 1)
theorem l76_5_ok {n : Nat} (hn : 1000 ≤ n) (nx : Nat → List UInt8) : ∀ (m i g : Nat) (S : ES), i + m = 24 → m < g → EInv S → (∀ j, i ≤ j → j < 24 → rw_ S.buf j = nx j) → (∀ j, j < i → rw_ S.buf j = []) → ∃ S', l76_5 n g (i : Int) S = some (S', 0) ∧ EInv S' ∧ S'.k.raw = stepAll S.k.raw nx m i ∧ ∀ j, j < 24 → rw_ S'.buf j = [] := by
  intro m
  induction m with
  | zero =>
    intro i g S h1 h2 hS hb hb9
    obtain ⟨g, rfl⟩ : ∃ g', g = g' + 1 := ⟨g - 1, by omega⟩
    refine ⟨S, ?_, hS, rfl, fun j hj => hb9 j (by omega)⟩
    show l76_5_st n (l76_5 n g) (i : Int) S = _
    unfold l76_5_st
    rw [if_neg (by omega)]
  | succ m ih =>
    intro i g S h1 h2 hS hb hb9
    obtain ⟨g, rfl⟩ : ∃ g', g = g' + 1 := ⟨g - 1, by omega⟩
    have hi : i < 24 := by omega
    obtain ⟨k', e1, hk, hr⟩ := s100_ok hn hS.k hi (nx i)
    have hb0 : getN S.buf 24 (i : Int) = some (nx i) := by
      rw [← hb i (Nat.le_refl _) hi]; exact getNd2 [] hS.buf hi
    show ∃ S', l76_5_st n (l76_5 n g) (i : Int) S = _ ∧ _
    unfold l76_5_st
    rw [if_pos (by omega), bindT hb0, bindT e1]
    have hb1 : getN ({ S with k := k' } : ES).buf 24 (i : Int) = some (nx i) := hb0
    rw [bindT hb1, ckF (by constructor <;> omega), Int.toNat_natCast]
    obtain ⟨S', e2, h3, h4, h5⟩ := ih (i + 1) g { S with k := k', buf := S.buf.set i [] } (by omega) (by omega) ⟨⟨hS.ef.f, hS.ef.notes, hS.ef.out⟩, hk, by show (S.buf.set i []).length = 24; rw [List.length_set]; exact hS.buf⟩ (by
      intro j hj hj2
      show rw_ (S.buf.set i []) j = nx j
      unfold rw_
      rw [getD_set _ _ (by rw [hS.buf]; exact hi), if_neg (by omega)]
      exact hb j (by omega) hj2) (by
      intro j hj
      show rw_ (S.buf.set i []) j = []
      unfold rw_
      rw [getD_set _ _ (by rw [hS.buf]; exact hi)]
      by_cases hji : j = i
      · rw [if_pos hji]
      · rw [if_neg hji]; exact hb9 j (by omega))
    exact ⟨S', e2, h3, by rw [h4]; show stepAll k'.raw nx m (i + 1) = _; rw [hr]; rfl, h5⟩
theorem l77_6_ok {n : Nat} (hn : 1000 ≤ n) (nx : Nat → List UInt8) (a : List (List UInt8)) (ha : a.length = 24) (hb : ∀ j, j < 24 → rw_ a j = nx j) : ∀ (m i g : Nat) (M : EMS), i + m = 24 → m < g → KM M.k → ∃ M', l77_6 n a g (i : Int) M = some (M', 0) ∧ KM M'.k ∧ M'.k.raw = stepAll M.k.raw nx m i := by
  intro m
  induction m with
  | zero =>
    intro i g M h1 h2 hM
    obtain ⟨g, rfl⟩ : ∃ g', g = g' + 1 := ⟨g - 1, by omega⟩
    refine ⟨M, ?_, hM, rfl⟩
    show l77_6_st n a (l77_6 n a g) (i : Int) M = _
    unfold l77_6_st
    rw [if_neg (by omega)]
  | succ m ih =>
    intro i g M h1 h2 hM
    obtain ⟨g, rfl⟩ : ∃ g', g = g' + 1 := ⟨g - 1, by omega⟩
    have hi : i < 24 := by omega
    obtain ⟨k', e, e1, hk, hr, _⟩ := s93_step hn hM hi (nx i)
    have hb0 : getN a 24 (i : Int) = some (nx i) := by
      rw [← hb i hi]; exact getNd2 [] ha hi
    show ∃ M', l77_6_st n a (l77_6 n a g) (i : Int) M = _ ∧ _
    unfold l77_6_st
    rw [if_pos (by omega), bindT hb0, bindT e1, ckF (by constructor <;> omega)]
    obtain ⟨M', e2, h3, h4⟩ := ih (i + 1) g { M with k := k' } (by omega) (by omega) hk
    exact ⟨M', e2, h3, by rw [h4]; show stepAll k'.raw nx m (i + 1) = _; rw [hr]; rfl⟩
/-- The new text of a cell: what both sides work out. -/
def NewText (n : Nat) (k a : Int) (ins rows : Bool) (nn : Int) (rs : List (List UInt8)) (c : Nat) (T : List UInt8) : Prop :=
  ∃ s : Int, s96 (s95 k a) (c : Int) = some s ∧ s101 (c : Int) k a = some s ∧ ((s = -1 ∧ T = []) ∨ ∃ d : Nat, s = (d : Int) ∧ d < 24 ∧ ((TurnA n (rw_ rs d) ∧ T = rw_ rs d) ∨ ∃ t, TurnB n (rw_ rs d) (mvN ins rows nn a) t T))
theorem newText_ex {n : Nat} (hn : 1000 ≤ n) {k a : Int} {ins rows : Bool} {nn : Int} (h : Ed k a ins rows nn) (rs : List (List UInt8)) {c : Nat} (hc : c < 24) : ∃ T, NewText n k a ins rows nn rs c T := by
  obtain ⟨s, e1, e2, e3⟩ := src_eq h hc
  rcases e3 with e3 | e3
  · exact ⟨[], s, e1, e2, .inl ⟨e3, rfl⟩⟩
  · rcases turn_ok hn (mvN_phi h) (rw_ rs s.toNat) with hA | ⟨t, T, hB⟩
    · exact ⟨_, s, e1, e2, .inr ⟨s.toNat, by omega, by omega, .inl ⟨hA, rfl⟩⟩⟩
    · exact ⟨T, s, e1, e2, .inr ⟨s.toNat, by omega, by omega, .inr ⟨t, hB⟩⟩⟩
theorem l76_6_ok {n : Nat} (hn : 1000 ≤ n) {k a : Int} {ins rows : Bool} {nn : Int} (h : Ed k a ins rows nn) (K : KS) (hK : KInv K) (nx : Nat → List UInt8) (hnx : ∀ c, c < 24 → NewText n k a ins rows nn K.raw c (nx c)) : ∀ (m i g : Nat) (S : ES), i + m = 24 → m < g → EF S → S.k = K → S.buf.length = 24 → (∀ j, j < i → rw_ S.buf j = nx j) → (∀ j, i ≤ j → j < 24 → rw_ S.buf j = []) →
    ∃ S', l76_6 n k a g (i : Int) S = l76_5 n n 0 S' ∧ EF S' ∧ S'.k = K ∧ S'.buf.length = 24 ∧ (∀ j, j < 24 → rw_ S'.buf j = nx j) := by
  intro m
  induction m with
  | zero =>
    intro i g S h1 h2 hS hk hb hb1 hb2
    obtain ⟨g, rfl⟩ : ∃ g', g = g' + 1 := ⟨g - 1, by omega⟩
    refine ⟨S, ?_, hS, hk, hb, fun j hj => hb1 j (by omega)⟩
    show l76_6_st n k a (l76_6 n k a g) (i : Int) S = _
    unfold l76_6_st
    rw [if_neg (by omega)]
  | succ m ih =>
    intro i g S h1 h2 hS hk hb hb1 hb2
    obtain ⟨g, rfl⟩ : ∃ g', g = g' + 1 := ⟨g - 1, by omega⟩
    have hi : i < 24 := by omega
    obtain ⟨s, e1, e2, e3⟩ := hnx i hi
    have k2 : ∀ S, k76_2 (i : Int) (l76_6 n k a g) S = l76_6 n k a g ((i + 1 : Nat) : Int) S := by
      intro S
      unfold k76_2
      rw [ckF (by constructor <;> omega)]; rfl
    -- the text is laid into the buffer
    have k4 : ∀ S1, KeepE S S1 → ∃ S', k76_4 (i : Int) (l76_6 n k a g) (nx i) S1 = l76_5 n n 0 S' ∧ EF S' ∧ S'.k = K ∧ S'.buf.length = 24 ∧ (∀ j, j < 24 → rw_ S'.buf j = nx j) := by
      intro S1 ⟨q1, q2, q3⟩
      unfold k76_4
      have hb0 : getN S1.buf 24 (i : Int) = some (rw_ S1.buf i) := by rw [q3]; exact getNd2 [] hb hi
      rw [bindT hb0, k2, Int.toNat_natCast]
      have hset : ∀ j, rw_ (S1.buf.set i (nx i)) j = if j = i then nx i else rw_ S.buf j := by
        intro j
        rw [q3]
        exact getD_set _ _ (by rw [hb]; exact hi) j
      refine ih (i + 1) g { S1 with buf := S1.buf.set i (nx i) } (by omega) (by omega) ⟨q1.f, q1.notes, q1.out⟩ (by show S1.k = K; rw [q2]; exact hk) (by show (S1.buf.set i _).length = 24; rw [List.length_set, q3]; exact hb) ?_ ?_
      · intro j hj
        show rw_ (S1.buf.set i (nx i)) j = nx j
        rw [hset]
        by_cases hji : j = i
        · rw [if_pos hji, hji]
        · rw [if_neg hji]; exact hb1 j (by omega)
      · intro j hj hj2
        show rw_ (S1.buf.set i (nx i)) j = []
        rw [hset, if_neg (by omega)]
        exact hb2 j (by omega) hj2
    show ∃ S', l76_6_st n k a (l76_6 n k a g) (i : Int) S = _ ∧ _
    unfold l76_6_st
    rw [if_pos (by omega), bindT e1]
    rcases e3 with ⟨hs, hT⟩ | ⟨d, hs, hd, hc⟩
    · rw [if_neg (by omega), k2]
      refine ih (i + 1) g S (by omega) (by omega) hS hk hb ?_ (fun j hj hj2 => hb2 j (by omega) hj2)
      intro j hj
      by_cases hji : j = i
      · rw [hji, hT]; exact hb2 i (Nat.le_refl _) hi
      · exact hb1 j (by omega)
    · have hraw : s86 S.k s = some (rw_ K.raw d) := by rw [hs, hk]; exact s86_ok hK.raws hd
      rw [if_pos (by omega), bindT hraw]
      rcases hc with ⟨hA, hT⟩ | ⟨t, hB⟩
      · obtain ⟨S1, t, e4, hkp⟩ := hA.1 S hS
        rw [bindT e4, if_neg (by simp)]
        rw [← hT]
        exact k4 S1 hkp
      · obtain ⟨b1, b2, b3, b4, _, _⟩ := hB
        obtain ⟨S1, e4, hk1⟩ := b3 S hS
        obtain ⟨S2, e5, hk2⟩ := b4 S1 hk1.1
        have e6 : s98 n (s95 k a) t.nodes t.nodes.length = some (t.nodes.map (mvN ins rows nn a)) := by
          have := s98_ok h (m := n) (ns := t.nodes) b1.bd.1 t.nodes.length 0 n (by omega) (by have := b1.bd.1; omega)
          rw [part_0] at this
          exact this
        rw [bindT e4, if_pos rfl, ckF b2, bindT e6, ckF (by rw [List.length_map]), bindT e5]
        exact k4 S2 ⟨hk2.1, by rw [hk2.2.1]; exact hk1.2.1, by rw [hk2.2.2]; exact hk1.2.2⟩
theorem l77_7_ok {n : Nat} (hn : 1000 ≤ n) {k a : Int} {ins rows : Bool} {nn : Int} (h : Ed k a ins rows nn) (K : KMS) (hK : Raws K.raw) (nx : Nat → List UInt8) (hnx : ∀ c, c < 24 → NewText n k a ins rows nn K.raw c (nx c)) : ∀ (m i g : Nat) (al : List (List UInt8)) (S : EMS), i + m = 24 → m < g → S.k = K → al.length = 24 → (∀ j, j < i → rw_ al j = nx j) → (∀ j, i ≤ j → j < 24 → rw_ al j = []) →
    ∃ S' al', l77_7 n k a g (i : Int) al S = l77_6 n al' n 0 S' ∧ S'.k = K ∧ al'.length = 24 ∧ (∀ j, j < 24 → rw_ al' j = nx j) := by
  intro m
  induction m with
  | zero =>
    intro i g al S h1 h2 hk hb hb1 hb2
    obtain ⟨g, rfl⟩ : ∃ g', g = g' + 1 := ⟨g - 1, by omega⟩
    refine ⟨S, al, ?_, hk, hb, fun j hj => hb1 j (by omega)⟩
    show l77_7_st n k a (l77_7 n k a g) (i : Int) al S = _
    unfold l77_7_st
    rw [if_neg (by omega)]
  | succ m ih =>
    intro i g al S h1 h2 hk hb hb1 hb2
    obtain ⟨g, rfl⟩ : ∃ g', g = g' + 1 := ⟨g - 1, by omega⟩
    have hi : i < 24 := by omega
    obtain ⟨s, e1, e2, e3⟩ := hnx i hi
    have k5 : ∀ al S, k77_5 (i : Int) (l77_7 n k a g) al S = l77_7 n k a g ((i + 1 : Nat) : Int) al S := by
      intro al S
      unfold k77_5
      rw [ckF (by constructor <;> omega)]; rfl
    have k4 : ∀ S1 : EMS, S1.k = K → ∃ S' al', k77_5 (i : Int) (l77_7 n k a g) (al.set i (nx i)) S1 = l77_6 n al' n 0 S' ∧ S'.k = K ∧ al'.length = 24 ∧ (∀ j, j < 24 → rw_ al' j = nx j) := by
      intro S1 q2
      rw [k5]
      have hset : ∀ j, rw_ (al.set i (nx i)) j = if j = i then nx i else rw_ al j := fun j => getD_set _ _ (by rw [hb]; exact hi) j
      refine ih (i + 1) g _ S1 (by omega) (by omega) q2 (by rw [List.length_set]; exact hb) ?_ ?_
      · intro j hj
        rw [hset]
        by_cases hji : j = i
        · rw [if_pos hji, hji]
        · rw [if_neg hji]; exact hb1 j (by omega)
      · intro j hj hj2
        rw [hset, if_neg (by omega)]
        exact hb2 j (by omega) hj2
    show ∃ S' al', l77_7_st n k a (l77_7 n k a g) (i : Int) al S = _ ∧ _
    unfold l77_7_st
    rw [if_pos (by omega), bindT e2]
    rcases e3 with ⟨hs, hT⟩ | ⟨d, hs, hd, hc⟩
    · rw [if_pos (by omega), k5]
      refine ih (i + 1) g al S (by omega) (by omega) hk hb ?_ (fun j hj hj2 => hb2 j (by omega) hj2)
      intro j hj
      by_cases hji : j = i
      · rw [hji, hT]; exact hb2 i (Nat.le_refl _) hi
      · exact hb1 j (by omega)
    · have hraw : s87 S.k s = some (rw_ K.raw d) := by rw [hs, hk]; exact s87_ok hK hd
      have hal : getN al 24 (i : Int) = some (rw_ al i) := getNd2 [] hb hi
      rw [if_neg (by omega), bindT hraw, bindT hal]
      rcases hc with ⟨hA, hT⟩ | ⟨t, hB⟩
      · obtain ⟨S1, t, e4, hkp⟩ := hA.2 S
        rw [bindT e4, if_neg (by simp), Int.toNat_natCast]
        rw [← hT]
        exact k4 S1 (by rw [hkp]; exact hk)
      · obtain ⟨b1, b2, _, _, b3, b4⟩ := hB
        obtain ⟨S1, e4, hk1⟩ := b3 S
        obtain ⟨S2, e5, hk2⟩ := b4 S1
        have e6 := s103_ok h (m := n) (by omega) t b1.bd.1 b2
        rw [bindT e4, if_pos rfl, ckF b2, bindT e6, ckF (by rw [List.length_map]; exact b2), bindT e5, Int.toNat_natCast, List.set_set]
        exact k4 S2 (by rw [hk2, hk1]; exact hk)
end Go.Proofs.Qxb6500272aGreat
