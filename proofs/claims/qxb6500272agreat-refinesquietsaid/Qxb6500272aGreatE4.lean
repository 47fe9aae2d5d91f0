/-
  Plain laws, edits: Set, Edit, Copy, Raw, Value of both editors.
-/
import Derived.Test.Qxb6500272aGreatE3
namespace Go.Proofs.Qxb6500272aGreat
open Go
set_option linter.unusedVariables false
set_option linter.unusedSimpArgs false
/-- Both editors between their calls. -/
structure EP (S : ES) (M : EMS) : Prop where
  e : EInv S
  emp : ∀ j, j < 24 → rw_ S.buf j = []
  m : KM M.k
  raw : M.k.raw = S.k.raw
theorem EP.raws {S : ES} {M : EMS} (h : EP S M) : Raws S.k.raw := h.e.k.raws
theorem EP.rawsM {S : ES} {M : EMS} (h : EP S M) : Raws M.k.raw := h.m.raws
theorem EP.shown {S : ES} {M : EMS} (h : EP S M) : S.k.shown = M.k.shown := by
  obtain ⟨L, hL⟩ := h.m
  exact shown_one h.e.k hL h.raw.symm
/-- The state of the real editor alone. -/
structure ER (S : ES) : Prop where
  e : EInv S
  emp : ∀ j, j < 24 → rw_ S.buf j = []
theorem EP.er {S : ES} {M : EMS} (h : EP S M) : ER S := ⟨h.e, h.emp⟩
/-- What Set answers. -/
def setE (c : Int) (t : List UInt8) : Int := if (40 : Int) < (t.length : Int) then 1 else if c < 0 then 9 else if (24 : Int) ≤ c then 9 else 0
def setR (rs : List (List UInt8)) (c : Int) (t : List UInt8) : List (List UInt8) := if setE c t = 0 then rs.set c.toNat t else rs
theorem s71_ok {n : Nat} (hn : 1000 ≤ n) {S : ES} (hS : ER S) (c : Int) (t : List UInt8) : ∃ S', s71 n S c t = some (S', setE c t) ∧ ER S' ∧ S'.k.raw = setR S.k.raw c t := by
  unfold s71 setR setE
  by_cases h1 : (40 : Int) < (t.length : Int)
  · rw [if_pos h1, if_pos h1, if_neg (by decide)]
    exact ⟨S, rfl, hS, rfl⟩
  rw [if_neg h1, if_neg h1]
  by_cases h2 : c < 0
  · rw [if_pos h2, if_neg (by decide)]
    refine ⟨S, ?_, hS, rfl⟩
    have : s90 n S.k c t = some (S.k, 9) := by unfold s90; rw [if_neg h1, if_pos h2]
    rw [bindT this]
  rw [if_neg h2]
  by_cases h3 : (24 : Int) ≤ c
  · rw [if_pos h3, if_neg (by decide)]
    refine ⟨S, ?_, hS, rfl⟩
    have : s90 n S.k c t = some (S.k, 9) := by unfold s90; rw [if_neg h1, if_neg h2, if_pos h3]
    rw [bindT this]
  rw [if_neg h3, if_pos rfl]
  obtain ⟨c', rfl⟩ : ∃ c' : Nat, c = (c' : Int) := ⟨c.toNat, by omega⟩
  obtain ⟨K', e, hK, hr⟩ := s90_ok hn hS.e.k (c := c') (by omega) (raw := t) (by omega)
  refine ⟨{ S with k := K' }, by rw [bindT e], ⟨⟨⟨hS.e.ef.f, hS.e.ef.notes, hS.e.ef.out⟩, hK, hS.e.buf⟩, hS.emp⟩, ?_⟩
  rw [Int.toNat_natCast]; exact hr
theorem s74_ok {n : Nat} (hn : 1000 ≤ n) {M : EMS} (hM : KM M.k) (c : Int) (t : List UInt8) : ∃ M', s74 n M c t = some (M', setE c t) ∧ KM M'.k ∧ M'.k.raw = setR M.k.raw c t := by
  unfold s74 setR setE
  by_cases h1 : (40 : Int) < (t.length : Int)
  · rw [if_pos h1, if_pos h1, if_neg (by decide)]
    exact ⟨_, rfl, hM, rfl⟩
  rw [if_neg h1, if_neg h1]
  obtain ⟨L, hL⟩ := hM
  have hM' : KM { M.k with sets := IntKind.wrap .i64 (M.k.sets + 1) } := ⟨L, hL.raws, hL.lev, hL.right⟩
  by_cases h2 : c < 0
  · rw [if_pos h2, if_neg (by decide)]
    have : s93 n M.k c t = some ({ M.k with sets := IntKind.wrap .i64 (M.k.sets + 1) }, 9) := by unfold s93; rw [if_neg h1, if_pos h2]
    rw [bindT this]
    exact ⟨_, rfl, hM', rfl⟩
  rw [if_neg h2]
  by_cases h3 : (24 : Int) ≤ c
  · rw [if_pos h3, if_neg (by decide)]
    have : s93 n M.k c t = some ({ M.k with sets := IntKind.wrap .i64 (M.k.sets + 1) }, 9) := by unfold s93; rw [if_neg h1, if_neg h2, if_pos h3]
    rw [bindT this]
    exact ⟨_, rfl, hM', rfl⟩
  rw [if_neg h3, if_pos rfl]
  obtain ⟨c', rfl⟩ : ∃ c' : Nat, c = (c' : Int) := ⟨c.toNat, by omega⟩
  obtain ⟨K', L', e, hK, hr⟩ := s93_ok hn hL.raws (c := c') (by omega) (raw := t) (by omega)
  rw [bindT e]
  exact ⟨_, rfl, ⟨L', hK⟩, by rw [Int.toNat_natCast]; exact hr⟩
/-- Edit. -/
theorem s76_ok {n : Nat} (hn : 1000 ≤ n) {S : ES} {M : EMS} (h : EP S M) (k a : Int) : ∃ S' M' e, s76 n S k a = some (S', e) ∧ s77 n M k a = some (M', e) ∧ EP S' M' ∧ (e ≠ 0 → S'.k.raw = S.k.raw) := by
  unfold s76 s77
  by_cases hk : s94 k a = true
  · rw [if_pos hk, if_pos hk]
    obtain ⟨ins, rows, nn, hE⟩ := ed_of hk
    have hex : ∀ c, ∃ T, c < 24 → NewText n k a ins rows nn S.k.raw c T := by
      intro c
      by_cases hc : c < 24
      · obtain ⟨T, hT⟩ := newText_ex hn hE S.k.raw hc
        exact ⟨T, fun _ => hT⟩
      · exact ⟨[], fun h => absurd h hc⟩
    have hnx : ∀ c, c < 24 → NewText n k a ins rows nn S.k.raw c (Classical.choose (hex c)) := fun c hc => Classical.choose_spec (hex c) hc
    generalize (fun c => Classical.choose (hex c)) = nx at hnx
    obtain ⟨nx, hnx⟩ : ∃ nx : Nat → List UInt8, ∀ c, c < 24 → NewText n k a ins rows nn S.k.raw c (nx c) := ⟨fun c => Classical.choose (hex c), fun c hc => Classical.choose_spec (hex c) hc⟩
    obtain ⟨S1, e1, a1, a2, a3, a4⟩ := l76_6_ok hn hE S.k h.e.k nx hnx 24 0 n S (by omega) (by omega) h.e.ef rfl h.e.buf (fun j hj => by omega) (fun j _ hj => h.emp j hj)
    obtain ⟨S2, e2, b1, b2, b3⟩ := l76_5_ok hn nx 24 0 n S1 (by omega) (by omega) ⟨a1, by rw [a2]; exact h.e.k, a3⟩ (fun j _ hj => a4 j hj) (fun j hj => by omega)
    obtain ⟨M1, al, e3, c1, c2, c3⟩ := l77_7_ok hn hE M.k h.rawsM nx (by rw [h.raw]; exact hnx) 24 0 n (List.replicate 24 []) M (by omega) (by omega) rfl (by simp) (fun j hj => by omega) (fun j _ hj => by
      unfold rw_
      rw [List.getD_eq_getElem?_getD, List.getElem?_replicate, if_pos hj]; rfl)
    obtain ⟨M2, e4, d1, d2⟩ := l77_6_ok hn nx al c2 c3 24 0 n M1 (by omega) (by omega) (by rw [c1]; exact h.m)
    refine ⟨S2, M2, 0, e1.trans e2, e3.trans e4, ⟨b1, b3, d1, ?_⟩, fun h => absurd rfl h⟩
    rw [b2, d2, a2, c1, h.raw]
  · rw [if_neg hk, if_neg hk]
    exact ⟨S, M, 9, rfl, rfl, h, fun _ => rfl⟩
/-- Copy. -/
theorem s78_ok {n : Nat} (hn : 1000 ≤ n) {S : ES} {M : EMS} (h : EP S M) (c d : Int) : ∃ S' M' e, s78 n S c d = some (S', e) ∧ s79 n M c d = some (M', e) ∧ EP S' M' ∧ (e ≠ 0 → S'.k.raw = S.k.raw) := by
  unfold s78 s79
  by_cases h1 : c < 0
  · rw [if_pos h1, if_pos h1]; exact ⟨S, M, 9, rfl, rfl, h, fun _ => rfl⟩
  rw [if_neg h1, if_neg h1]
  by_cases h2 : (24 : Int) ≤ c
  · rw [if_pos h2, if_pos h2]; exact ⟨S, M, 9, rfl, rfl, h, fun _ => rfl⟩
  rw [if_neg h2, if_neg h2]
  by_cases h3 : d < 0
  · rw [if_pos h3, if_pos h3]; exact ⟨S, M, 9, rfl, rfl, h, fun _ => rfl⟩
  rw [if_neg h3, if_neg h3]
  by_cases h4 : (24 : Int) ≤ d
  · rw [if_pos h4, if_pos h4]; exact ⟨S, M, 9, rfl, rfl, h, fun _ => rfl⟩
  rw [if_neg h4, if_neg h4]
  obtain ⟨c', rfl⟩ : ∃ c' : Nat, c = (c' : Int) := ⟨c.toNat, by omega⟩
  obtain ⟨d', rfl⟩ : ∃ d' : Nat, d = (d' : Int) := ⟨d.toNat, by omega⟩
  have hc : c' < 24 := by omega
  have hd : d' < 24 := by omega
  have ec1 : Int.tdiv (c' : Int) 4 = ((c' / 4 : Nat) : Int) := by rw [Int.tdiv_eq_ediv_of_nonneg (by omega)]; rfl
  have ec2 : Int.tmod (c' : Int) 4 = ((c' % 4 : Nat) : Int) := by rw [Int.tmod_eq_emod_of_nonneg (by omega)]; rfl
  have ed1 : Int.tdiv (d' : Int) 4 = ((d' / 4 : Nat) : Int) := by rw [Int.tdiv_eq_ediv_of_nonneg (by omega)]; rfl
  have ed2 : Int.tmod (d' : Int) 4 = ((d' % 4 : Nat) : Int) := by rw [Int.tmod_eq_emod_of_nonneg (by omega)]; rfl
  have hraw : s86 S.k (c' : Int) = some (rw_ S.k.raw c') := s86_ok h.raws hc
  have hrawM : s87 M.k (c' : Int) = some (rw_ S.k.raw c') := by rw [← h.raw]; exact s87_ok h.rawsM hc
  -- the end of both
  have fin : ∀ (T : List UInt8) (S1 : ES) (M1 : EMS), KeepE S S1 → M1.k = M.k → ∃ S' M' e, k78_1 n (d' : Int) T S1 = some (S', e) ∧ k79_1 n (d' : Int) T M1 = some (M', e) ∧ EP S' M' ∧ (e ≠ 0 → S'.k.raw = S.k.raw) := by
    intro T S1 M1 ⟨q1, q2, q3⟩ q4
    have hbuf : S1.buf.length = 24 := by rw [q3]; exact h.e.buf
    have hemp : ∀ j, j < 24 → rw_ S1.buf j = [] := by rw [q3]; exact h.emp
    have hk : KInv S1.k := by rw [q2]; exact h.e.k
    have hM1 : KM M1.k := by rw [q4]; exact h.m
    obtain ⟨k2, e2, k3, k4, k5⟩ := s93_step hn hM1 hd T
    unfold k78_1 k79_1
    rw [bindT k3]
    by_cases hT : (40 : Int) < (T.length : Int)
    · rw [if_pos hT]
      have hT' : ¬ T.length ≤ 40 := by omega
      obtain ⟨k5a, k5b⟩ := k5
      rw [if_neg hT'] at k5b
      refine ⟨S1, { M1 with k := k2 }, 1, rfl, by rw [k5b], ⟨⟨q1, hk, hbuf⟩, hemp, k4, ?_⟩, fun _ => by rw [q2]⟩
      show k2.raw = S1.k.raw
      unfold stepRaw at k5a
      rw [if_neg hT'] at k5a
      rw [k5a, q4, q2]; exact h.raw
    · rw [if_neg hT]
      have hT' : T.length ≤ 40 := by omega
      obtain ⟨k5a, k5b⟩ := k5
      rw [if_pos hT'] at k5b
      obtain ⟨kk, e1, g1, g2⟩ := s100_ok hn hk hd T
      rw [bindT e1]
      refine ⟨{ S1 with k := kk }, { M1 with k := k2 }, 0, rfl, by rw [k5b], ⟨⟨⟨q1.f, q1.notes, q1.out⟩, g1, hbuf⟩, hemp, k4, ?_⟩, fun h => absurd rfl h⟩
      show k2.raw = kk.raw
      rw [k5a, g2, q4, q2, h.raw]
  rw [bindT hraw, bindT hrawM]
  have hsm1 : Sm (((d' % 4 : Nat) : Int) - ((c' % 4 : Nat) : Int)) := by constructor <;> omega
  have hsm2 : Sm (((d' / 4 : Nat) : Int) - ((c' / 4 : Nat) : Int)) := by constructor <;> omega
  rcases turn_ok hn (cpN_phi (((d' % 4 : Nat) : Int) - ((c' % 4 : Nat) : Int)) (((d' / 4 : Nat) : Int) - ((c' / 4 : Nat) : Int))) (rw_ S.k.raw c') with hA | ⟨t, T, hB⟩
  · obtain ⟨S1, t, e1, hk1⟩ := hA.1 S h.e.ef
    obtain ⟨M1, t2, e2, hk2⟩ := hA.2 M
    rw [bindT e1, bindT e2, if_neg (by simp), if_neg (by simp)]
    exact fin _ S1 M1 hk1 hk2
  · obtain ⟨b1, b2, b3, b4, b5, b6⟩ := hB
    obtain ⟨S1, e1, hk1⟩ := b3 S h.e.ef
    obtain ⟨S2, e2, hk2⟩ := b4 S1 hk1.1
    obtain ⟨M1, e3, hk3⟩ := b5 M
    obtain ⟨M2, e4, hk4⟩ := b6 M1
    have e5 : s105 n t.nodes t.nodes.length (((d' % 4 : Nat) : Int) - ((c' % 4 : Nat) : Int)) (((d' / 4 : Nat) : Int) - ((c' / 4 : Nat) : Int)) = some (t.nodes.map (cpN (((d' % 4 : Nat) : Int) - ((c' % 4 : Nat) : Int)) (((d' / 4 : Nat) : Int) - ((c' / 4 : Nat) : Int)))) := by
      have := s105_ok hsm1 hsm2 (m := n) b1.bd t.nodes.length 0 n (by omega) (by have := b1.bd.1; omega)
      rw [part_0] at this
      exact this
    have e6 := s106_ok hsm1 hsm2 (m := n) (by omega) t b1.bd b2
    have cc1 : i64ok (((d' % 4 : Nat) : Int) - ((c' % 4 : Nat) : Int)) := by constructor <;> omega
    have cc2 : i64ok ((d' / 4 : Nat) : Int) := by constructor <;> omega
    have cc3 : i64ok ((c' / 4 : Nat) : Int) := by constructor <;> omega
    have cc4 : i64ok (((d' / 4 : Nat) : Int) - ((c' / 4 : Nat) : Int)) := by constructor <;> omega
    rw [bindT e1, bindT e3, if_pos rfl, if_pos rfl, ec1, ec2, ed1, ed2, ckF cc1, ckF cc2, ckF cc3, ckF cc4, ckF cc1, ckF cc2, ckF cc3, ckF cc4, ckF b2, ckF b2, bindT e5, bindT e6, ckF (by rw [List.length_map]), bindT e2, ckF (by rw [List.length_map]; exact b2), bindT e4]
    exact fin T S2 M2 ⟨hk2.1, by rw [hk2.2.1]; exact hk1.2.1, by rw [hk2.2.2]; exact hk1.2.2⟩ (by rw [hk4]; exact hk3)
/-- Raw and Value. -/
def rawAt (rs : List (List UInt8)) (c : Int) : List UInt8 := if c < 0 then [] else if 24 ≤ c then [] else rw_ rs c.toNat
theorem s64_ok {S : ES} (h : Raws S.k.raw) (c : Int) : s64 S c = some (rawAt S.k.raw c) := by
  unfold s64 rawAt
  refine bindR ?_
  unfold s86
  by_cases h1 : c < 0
  · rw [if_pos h1, if_pos h1]
  rw [if_neg h1, if_neg h1]
  by_cases h2 : 24 ≤ c
  · rw [if_pos h2, if_pos h2]
  rw [if_neg h2, if_neg h2]
  obtain ⟨c', rfl⟩ : ∃ c' : Nat, c = (c' : Int) := ⟨c.toNat, by omega⟩
  rw [Int.toNat_natCast]
  exact bindR (getNd2 [] h.1 (by omega))
theorem s65_ok {M : EMS} (h : Raws M.k.raw) (c : Int) : s65 M c = some (rawAt M.k.raw c) := by
  unfold s65 rawAt
  refine bindR ?_
  unfold s87
  by_cases h1 : c < 0
  · rw [if_pos h1, if_pos h1]
  rw [if_neg h1, if_neg h1]
  by_cases h2 : 24 ≤ c
  · rw [if_pos h2, if_pos h2]
  rw [if_neg h2, if_neg h2]
  obtain ⟨c', rfl⟩ : ∃ c' : Nat, c = (c' : Int) := ⟨c.toNat, by omega⟩
  rw [Int.toNat_natCast]
  exact bindR (getNd2 [] h.1 (by omega))
theorem s66_ok {S : ES} {M : EMS} (h : EP S M) (c : Int) : ∃ v, s66 S c = some v ∧ s67 M c = some v := by
  unfold s66 s67 s88 s89
  by_cases h1 : c < 0
  · rw [if_pos h1, if_pos h1]; exact ⟨_, rfl, rfl⟩
  rw [if_neg h1, if_neg h1]
  by_cases h2 : 24 ≤ c
  · rw [if_pos h2, if_pos h2]; exact ⟨_, rfl, rfl⟩
  rw [if_neg h2, if_neg h2]
  obtain ⟨c', rfl⟩ : ∃ c' : Nat, c = (c' : Int) := ⟨c.toNat, by omega⟩
  have hl : S.k.shown.length = 24 := h.e.k.right.env.len
  have e : getN S.k.shown 24 (c' : Int) = some (vl S.k.shown c') := getNd2 (⟨0, 0, []⟩ : ValT) hl (by omega)
  rw [← h.shown, bindT e]
  exact ⟨_, rfl, rfl⟩
end Go.Proofs.Qxb6500272aGreat
