/-
  Plain laws, the graph: the mending of the levels.
-/
import Derived.Test.Qxb6500272aGreatG1
namespace Go.Proofs.Qxb6500272aGreat
open Go
set_option linter.unusedVariables false
set_option linter.unusedSimpArgs false
/-- The levels that a graph has: -1 is no level. -/
structure LevR (R : Nat → Nat → Bool) (L : Nat → Int) : Prop where
  lo : ∀ c, c < 24 → -1 ≤ L c
  a : ∀ c, c < 24 → 0 ≤ L c → (∀ d, d < 24 → R c d = true → 0 ≤ L d ∧ L d < L c) ∧ (L c = 0 ∨ ∃ d, d < 24 ∧ R c d = true ∧ L c = L d + 1)
  b : ∀ c, c < 24 → L c = -1 → ∃ d, d < 24 ∧ R c d = true ∧ L d = -1
def lv (l : List Int) (c : Nat) : Int := l.getD c 0
section
variable {n : Nat} {S0 : GS} {h : BitVec 32}
def rdr (S : GS) (r : Nat) : BitVec 32 := S.reads.getD r 0
def sickOf (S : GS) (h : BitVec 32) : BitVec 32 := S.cyclic &&& ~~~h
def NoSick (S : GS) (h : BitVec 32) (r : Nat) : Prop := ((rdr S r &&& sickOf S h).toNat : Int) = 0
theorem l130_3_ok (x71 x72 : BitVec 32) (S68 : GS) (rec73 : BitVec 32 → BitVec 32 → GS → Option GS) (r110 : Int) (x115 : BitVec 32) : ∀ (g : Nat) (s : BitVec 32) (m : Nat), In24 s → cnt s < g → m + cnt s ≤ 24 →
    l130_3 n S0 h x71 x72 S68 rec73 r110 x115 g (m : Int) s = l130_3_st n S0 h x71 x72 S68 rec73 r110 x115 (fun _ _ => none) ((m + cnt s : Nat) : Int) 0 := by
  intro g
  induction g with
  | zero => intro s m h1 h2; omega
  | succ g ih =>
    intro s m h1 h2 h3
    show l130_3_st n S0 h x71 x72 S68 rec73 r110 x115 (l130_3 n S0 h x71 x72 S68 rec73 r110 x115 g) (m : Int) s = _
    by_cases h0 : (s.toNat : Int) = 0
    · have : s = 0 := BitVec.eq_of_toNat_eq (by simpa using h0)
      subst this
      have hc : cnt (0 : BitVec 32) = 0 := cnt_0.2 (fun j _ => by simp)
      rw [hc, Nat.add_zero]
      unfold l130_3_st
      rw [if_pos h0, if_pos h0]
    · obtain ⟨d, hd, e1, hb, hc, a1, a2⟩ := els_cons h1 h0
      have hcn : cnt s = cnt (s &&& (s - 1)) + 1 := by unfold cnt; rw [hc]; rfl
      conv => lhs; unfold l130_3_st
      rw [if_neg h0, ckF (by constructor <;> omega), show (m : Int) + 1 = ((m + 1 : Nat) : Int) by omega, ih _ (m + 1) a1 (by omega) (by omega)]
      rw [show m + 1 + cnt (s &&& (s - 1)) = m + cnt s by omega]
structure InvA (S0 : GS) (h x71 x72 : BitVec 32) (N : List Int) (T : Int) : Prop where
  i71 : In24 x71
  i72 : In24 x72
  sub : ∀ j, j < 24 → x72.getLsbD j = true → h.getLsbD j = true
  len : N.length = 24
  t0 : 0 ≤ T ∧ T ≤ 1000 - cnt x72
  need : ∀ r, r < 24 → h.getLsbD r = true → x72.getLsbD r = false → lv N r = (cnt (rdr S0 r &&& h) : Int)
  rip : ∀ j, j < 24 → (x71.getLsbD j = true ↔ h.getLsbD j = true ∧ x72.getLsbD j = false ∧ cnt (rdr S0 j &&& h) = 0 ∧ NoSick S0 h j)
theorem loopA (hn : 1000 ≤ n) (hS : All24 S0.reads) (hh : In24 h) : ∀ (g : Nat) (x71 x72 : BitVec 32) (N : List Int) (T : Int), cnt x72 < g → InvA S0 h x71 x72 N T →
    ∃ ripe N' T', l130_21 n S0 h g x71 x72 { S0 with need := N, touched := T } = l130_20 n S0 h n ripe h { S0 with need := N', touched := T' } ∧ InvA S0 h ripe 0 N' T' := by
  intro g
  induction g with
  | zero => intro x71 x72 N T h1; omega
  | succ g ih =>
    intro x71 x72 N T h1 I
    show ∃ ripe N' T', l130_21_st n S0 h (l130_21 n S0 h g) x71 x72 { S0 with need := N, touched := T } = _ ∧ _
    unfold l130_21_st
    by_cases h0 : (x72.toNat : Int) = 0
    · have : x72 = 0 := BitVec.eq_of_toNat_eq (by simpa using h0)
      subst this
      rw [if_pos h0]
      exact ⟨x71, N, T, rfl, I⟩
    · obtain ⟨d, hd, e1, hb, hc, a1, a2⟩ := els_cons I.i72 h0
      have hcn : cnt x72 = cnt (x72 &&& (x72 - 1)) + 1 := by unfold cnt; rw [hc]; rfl
      have ht := I.t0
      rw [if_neg h0, bindT e1, ckF (by show i64ok (T + 1); constructor <;> omega), bindT (getNd2 (l := ({ S0 with need := N, touched := T } : GS).reads) 0 hS.1 hd)]
      have hin : In24 (rdr S0 d &&& h) := in24_and2 hh
      have e3 := l130_3_ok (n := n) (S0 := S0) (h := h) x71 x72 { S0 with need := N, touched := T } (l130_21 n S0 h g) (d : Int) (rdr S0 d) n (rdr S0 d &&& h) 0 hin (by have := cnt_le (rdr S0 d &&& h); omega) (by have := cnt_le (rdr S0 d &&& h); omega)
      have e3' : l130_3 n S0 h x71 x72 { S0 with need := N, touched := T } (l130_21 n S0 h g) (d : Int) (S0.reads.getD d 0) n (0 : Int) (S0.reads.getD d 0 &&& h) = _ := e3
      show ∃ ripe N' T', l130_3 n S0 h x71 x72 { S0 with need := N, touched := T } (l130_21 n S0 h g) (d : Int) (S0.reads.getD d 0) n (0 : Int) (S0.reads.getD d 0 &&& h) = _ ∧ _
      rw [e3']
      unfold l130_3_st
      rw [if_pos (by rfl), bindT (getNd2 (l := ({ S0 with need := N, touched := T } : GS).need) 0 I.len hd), Nat.zero_add, Int.toNat_natCast]
      have hN' : ∀ r, lv (N.set d (cnt (rdr S0 d &&& h) : Int)) r = if r = d then (cnt (rdr S0 d &&& h) : Int) else lv N r := fun r => getD_set _ _ (by rw [I.len]; exact hd) r
      have key : ∀ x71', In24 x71' → (∀ j, j < 24 → (x71'.getLsbD j = true ↔ (x71.getLsbD j = true ∨ (j = d ∧ cnt (rdr S0 d &&& h) = 0 ∧ NoSick S0 h d)))) →
          InvA S0 h x71' (x72 &&& (x72 - 1)) (N.set d (cnt (rdr S0 d &&& h) : Int)) (T + 1) := by
        intro x71' hx hbits
        refine ⟨hx, a1, fun j hj hj2 => ?_, by rw [List.length_set]; exact I.len, by omega, fun r hr h1 h2 => ?_, fun j hj => ?_⟩
        · rw [a2] at hj2
          exact I.sub j hj (by simpa using And.left (by simpa using hj2))
        · rw [hN']
          by_cases hrd : r = d
          · subst hrd; rw [if_pos rfl]
          · rw [if_neg hrd]
            refine I.need r hr h1 ?_
            rw [a2] at h2
            simpa [hrd] using h2
        · rw [hbits j hj, I.rip j hj, a2]
          by_cases hjd : j = d
          · subst hjd
            rw [hb]
            have := I.sub j hj hb
            simp [this]
          · simp [hjd]
      have hor : ∀ j, j < 24 → ((x71 ||| ((1 : BitVec 32) <<< d)).getLsbD j = true ↔ (x71.getLsbD j = true ∨ j = d)) := by
        intro j hj
        rw [BitVec.getLsbD_or, bone hd]
        simp
      by_cases hz : ((cnt (rdr S0 d &&& h) : Nat) : Int) = 0
      · have hz' : cnt (rdr S0 d &&& h) = 0 := by omega
        rw [if_pos hz]
        by_cases hs : NoSick S0 h d
        · rw [if_pos (show ((rdr S0 d &&& (S0.cyclic &&& ~~~h)).toNat : Int) = 0 from hs), bindT (s128_ok hd)]
          unfold k130_2
          exact ih _ _ _ _ (by omega) (key _ (in24_or I.i71 (in24_one hd)) (fun j hj => by rw [hor j hj]; simp [hz', hs]))
        · rw [if_neg (show ¬ ((rdr S0 d &&& (S0.cyclic &&& ~~~h)).toNat : Int) = 0 from hs)]
          unfold k130_2
          exact ih _ _ _ _ (by omega) (key _ I.i71 (fun j hj => by simp [hs]))
      · rw [if_neg hz]
        unfold k130_2
        exact ih _ _ _ _ (by omega) (key _ I.i71 (fun j hj => by simp; intro _ hz'; omega))
/-! ### Settling -/
structure MInv (S0 : GS) (h : BitVec 32) (L N : List Int) (ripe left : BitVec 32) : Prop where
  lenL : L.length = 24
  lenN : N.length = 24
  ir : In24 ripe
  il : In24 left
  sub : ∀ j, j < 24 → left.getLsbD j = true → h.getLsbD j = true
  need : ∀ r, r < 24 → h.getLsbD r = true → lv N r = (cnt (rdr S0 r &&& left) : Int)
  rip : ∀ j, j < 24 → (ripe.getLsbD j = true ↔ left.getLsbD j = true ∧ cnt (rdr S0 j &&& left) = 0 ∧ NoSick S0 h j)
  fin : ∀ r, r < 24 → h.getLsbD r = true → left.getLsbD r = false → 0 ≤ lv L r ∧ (∀ d, d < 24 → rdb S0.reads r d = true → left.getLsbD d = false ∧ 0 ≤ lv L d ∧ lv L d < lv L r) ∧ (lv L r = 0 ∨ ∃ d, d < 24 ∧ rdb S0.reads r d = true ∧ lv L r = lv L d + 1)
  out : ∀ r, r < 24 → h.getLsbD r = false → lv L r = lv S0.level r
  bnd : ∀ r, r < 24 → left.getLsbD r = false → lv L r ≤ 47 - cnt left
/-- What is known of the cells outside. -/
structure OutOk (S0 : GS) (h : BitVec 32) : Prop where
  reads : All24 S0.reads
  rb : All24 S0.readBy
  turn : ∀ c d, c < 24 → d < 24 → rdb S0.readBy d c = rdb S0.reads c d
  lenL : S0.level.length = 24
  icy : In24 S0.cyclic
  ih : In24 h
  clos : ∀ r d, r < 24 → d < 24 → h.getLsbD r = false → rdb S0.reads r d = true → h.getLsbD d = false
  bd : ∀ r, r < 24 → h.getLsbD r = false → -1 ≤ lv S0.level r ∧ lv S0.level r ≤ 23
  cyc : ∀ r, r < 24 → h.getLsbD r = false → (S0.cyclic.getLsbD r = true ↔ lv S0.level r = -1)
structure InvB (S0 : GS) (h left : BitVec 32) (d : Nat) (x307 x308 : BitVec 32) (N : List Int) : Prop where
  i7 : In24 x307
  i8 : In24 x308
  len : N.length = 24
  sub : ∀ j, j < 24 → x308.getLsbD j = true → h.getLsbD j = true ∧ rdb S0.reads j d = true
  need : ∀ r, r < 24 → h.getLsbD r = true → lv N r = if x308.getLsbD r = true then (cnt (rdr S0 r &&& left) : Int) else (cnt (rdr S0 r &&& (left &&& ~~~((1 : BitVec 32) <<< d))) : Int)
  rip : ∀ j, j < 24 → (x307.getLsbD j = true ↔ (left.getLsbD j = true ∧ j ≠ d) ∧ x308.getLsbD j = false ∧ cnt (rdr S0 j &&& (left &&& ~~~((1 : BitVec 32) <<< d))) = 0 ∧ NoSick S0 h j)
theorem left_bit {left : BitVec 32} {d j : Nat} (hd : d < 24) (hj : j < 24) : (left &&& ~~~((1 : BitVec 32) <<< d)).getLsbD j = (left.getLsbD j && decide (j ≠ d)) := by
  rw [BitVec.getLsbD_and, bnot hj, bone hd]
  by_cases h : j = d <;> simp [h]
theorem loopB (hn : 1000 ≤ n) (hS : All24 S0.reads) {left : BitVec 32} {d : Nat} (hd : d < 24) (hl : left.getLsbD d = true) (hlr : ∀ j, j < 24 → h.getLsbD j = true → rdb S0.reads j d = true → left.getLsbD j = true ∧ j ≠ d)
    (rec251 : BitVec 32 → BitVec 32 → GS → Option GS) (L : List Int) (T : Int) : ∀ (g : Nat) (x307 x308 : BitVec 32) (N : List Int), cnt x308 < g → InvB S0 h left d x307 x308 N →
    ∃ ripe N', l130_10 n S0 h left rec251 ((1 : BitVec 32) <<< d) g x307 x308 { S0 with level := L, need := N, touched := T } = rec251 ripe (left &&& ~~~((1 : BitVec 32) <<< d)) { S0 with level := L, need := N', touched := T } ∧ InvB S0 h left d ripe 0 N' := by
  intro g
  induction g with
  | zero => intro x307 x308 N h1; omega
  | succ g ih =>
    intro x307 x308 N h1 I
    show ∃ ripe N', l130_10_st n S0 h left rec251 ((1 : BitVec 32) <<< d) (l130_10 n S0 h left rec251 ((1 : BitVec 32) <<< d) g) x307 x308 { S0 with level := L, need := N, touched := T } = _ ∧ _
    unfold l130_10_st
    by_cases h0 : (x308.toNat : Int) = 0
    · have : x308 = 0 := BitVec.eq_of_toNat_eq (by simpa using h0)
      subst this
      rw [if_pos h0]
      exact ⟨x307, N, rfl, I⟩
    · obtain ⟨r, hr, e1, hb, hc, a1, a2⟩ := els_cons I.i8 h0
      have hcn : cnt x308 = cnt (x308 &&& (x308 - 1)) + 1 := by unfold cnt; rw [hc]; rfl
      obtain ⟨hhr, hrd⟩ := I.sub r hr hb
      obtain ⟨hlr1, hlr2⟩ := hlr r hr hhr hrd
      have hcc : cnt (rdr S0 r &&& left) = cnt (rdr S0 r &&& (left &&& ~~~((1 : BitVec 32) <<< d))) + 1 := by
        refine cnt_one (d := d) hd ?_ ?_ ?_
        · rw [BitVec.getLsbD_and, hl, Bool.and_true]; exact hrd
        · rw [BitVec.getLsbD_and, left_bit hd hd]; simp
        · intro j hj hjd
          rw [BitVec.getLsbD_and, BitVec.getLsbD_and, left_bit hd hj]
          simp [hjd]
      have hNr : lv N r = ((cnt (rdr S0 r &&& (left &&& ~~~((1 : BitVec 32) <<< d))) : Nat) : Int) + 1 := by
        rw [I.need r hr hhr, if_pos hb, hcc]; omega
      have hle := cnt_le (rdr S0 r &&& (left &&& ~~~((1 : BitVec 32) <<< d)))
      have hgN : getN ({ S0 with level := L, need := N, touched := T } : GS).need 24 (r : Int) = some (((cnt (rdr S0 r &&& (left &&& ~~~((1 : BitVec 32) <<< d))) : Nat) : Int) + 1) := by
        rw [getNd2 (l := ({ S0 with level := L, need := N, touched := T } : GS).need) 0 I.len hr]
        exact congrArg some hNr
      rw [if_neg h0, bindT e1, bindT hgN, ckF (by constructor <;> omega), Int.add_sub_cancel, Int.toNat_natCast]
      generalize hC : cnt (rdr S0 r &&& (left &&& ~~~((1 : BitVec 32) <<< d))) = C at *
      have hN' : ∀ q, lv (N.set r (C : Int)) q = if q = r then (C : Int) else lv N q := fun q => getD_set _ _ (by rw [I.len]; exact hr) q
      have key : ∀ x307', In24 x307' → (∀ j, j < 24 → (x307'.getLsbD j = true ↔ (x307.getLsbD j = true ∨ (j = r ∧ C = 0 ∧ NoSick S0 h r)))) →
          InvB S0 h left d x307' (x308 &&& (x308 - 1)) (N.set r (C : Int)) := by
        intro x' hx hbits
        refine ⟨hx, a1, by rw [List.length_set]; exact I.len, fun j hj hj2 => ?_, fun q hq h1 => ?_, fun j hj => ?_⟩
        · rw [a2] at hj2
          exact I.sub j hj (by simpa using And.left (by simpa using hj2))
        · rw [hN', a2]
          by_cases hqr : q = r
          · subst hqr
            rw [if_pos rfl, if_neg (by simp), hC]
          · rw [if_neg hqr, I.need q hq h1]
            simp [hqr]
        · rw [hbits j hj, I.rip j hj, a2]
          by_cases hjr : j = r
          · subst hjr
            rw [hb, hC]
            simp [hlr1, hlr2]
          · simp [hjr]
      have hor : ∀ j, j < 24 → ((x307 ||| ((1 : BitVec 32) <<< r)).getLsbD j = true ↔ (x307.getLsbD j = true ∨ j = r)) := by
        intro j hj
        rw [BitVec.getLsbD_or, bone hr]
        simp
      by_cases hz : (C : Int) = 0
      · have hz' : C = 0 := by omega
        rw [if_pos hz, bindT (getNd2 (l := ({ S0 with level := L, need := N, touched := T } : GS).reads) 0 hS.1 hr)]
        by_cases hs : NoSick S0 h r
        · rw [if_pos (show ((S0.reads.getD r 0 &&& (S0.cyclic &&& ~~~h)).toNat : Int) = 0 from hs), bindT (s128_ok hr)]
          unfold k130_2
          exact ih _ _ _ (by omega) (key _ (in24_or I.i7 (in24_one hr)) (fun j hj => by rw [hor j hj]; simp [hz', hs]))
        · rw [if_neg (show ¬ ((S0.reads.getD r 0 &&& (S0.cyclic &&& ~~~h)).toNat : Int) = 0 from hs)]
          unfold k130_2
          exact ih _ _ _ (by omega) (key _ I.i7 (fun j hj => by simp [hs]))
      · rw [if_neg hz]
        unfold k130_2
        exact ih _ _ _ (by omega) (key _ I.i7 (fun j hj => by simp; intro _ hz'; omega))
/-- What is left is cyclic. -/
theorem loopC (x250 : BitVec 32) (S : GS) : ∀ (g : Nat) (s : BitVec 32) (L : List Int), In24 s → cnt s < g → L.length = 24 →
    ∃ L', l130_19 n S0 h x250 g s { S with level := L } = some { S with level := L', cyclic := ((S0.cyclic &&& ~~~h) ||| x250) } ∧ L'.length = 24 ∧ ∀ r, r < 24 → lv L' r = if s.getLsbD r = true then -1 else lv L r := by
  intro g
  induction g with
  | zero => intro s L h1 h2; omega
  | succ g ih =>
    intro s L h1 h2 h3
    show ∃ L', l130_19_st n S0 h x250 (l130_19 n S0 h x250 g) s { S with level := L } = _ ∧ _
    unfold l130_19_st
    by_cases h0 : (s.toNat : Int) = 0
    · have : s = 0 := BitVec.eq_of_toNat_eq (by simpa using h0)
      subst this
      rw [if_pos h0]
      exact ⟨L, rfl, h3, fun r hr => by simp⟩
    · obtain ⟨d, hd, e1, hb, hc, a1, a2⟩ := els_cons h1 h0
      have hcn : cnt s = cnt (s &&& (s - 1)) + 1 := by unfold cnt; rw [hc]; rfl
      rw [if_neg h0, bindT e1, bindT (getNd2 (l := ({ S with level := L } : GS).level) 0 h3 hd), Int.toNat_natCast]
      obtain ⟨L', f1, f2, f3⟩ := ih (s &&& (s - 1)) (L.set d (-1)) a1 (by omega) (by rw [List.length_set]; exact h3)
      refine ⟨L', f1, f2, fun r hr => ?_⟩
      rw [f3 r hr, a2]
      have hx : lv (L.set d (-1)) r = if r = d then -1 else lv L r := getD_set _ _ (by rw [h3]; exact hd) r
      rw [hx]
      by_cases hrd : r = d
      · subst hrd; simp [hb]
      · simp [hrd]
end
end Go.Proofs.Qxb6500272aGreat
