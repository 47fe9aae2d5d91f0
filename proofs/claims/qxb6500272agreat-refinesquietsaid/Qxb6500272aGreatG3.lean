/-
  Plain laws, the graph: the mending, whole; Set.
-/
import Derived.Test.Qxb6500272aGreatG2
namespace Go.Proofs.Qxb6500272aGreat
open Go
set_option linter.unusedVariables false
set_option linter.unusedSimpArgs false
/-- The levels of the cells outside are right. -/
def OutLev (S0 : GS) (h : BitVec 32) : Prop := ∀ c, c < 24 → h.getLsbD c = false →
  (0 ≤ lv S0.level c → (∀ d, d < 24 → rdb S0.reads c d = true → 0 ≤ lv S0.level d ∧ lv S0.level d < lv S0.level c) ∧ (lv S0.level c = 0 ∨ ∃ d, d < 24 ∧ rdb S0.reads c d = true ∧ lv S0.level c = lv S0.level d + 1)) ∧
  (lv S0.level c = -1 → ∃ d, d < 24 ∧ rdb S0.reads c d = true ∧ lv S0.level d = -1)
section
variable {n : Nat} {S0 : GS} {h : BitVec 32}
theorem rdr_bit {c d : Nat} : (rdr S0 c).getLsbD d = rdb S0.reads c d := rfl
theorem nosick {r : Nat} (hO : OutOk S0 h) (hs : NoSick S0 h r) {d : Nat} (hd : d < 24) (hr : rdb S0.reads r d = true) (hh : h.getLsbD d = false) : 0 ≤ lv S0.level d := by
  have h1 := hO.bd d hd hh
  have h2 := hO.cyc d hd hh
  have := (bv_zero.1 hs) d (by omega)
  rw [BitVec.getLsbD_and, rdr_bit, hr, Bool.true_and] at this
  unfold sickOf at this
  rw [BitVec.getLsbD_and, bnot hd, hh, Bool.not_false, Bool.and_true] at this
  by_cases hq : lv S0.level d = -1
  · rw [h2.2 hq] at this; cases this
  · omega
theorem mstep (hn : 1000 ≤ n) (hO : OutOk S0 h) {L N : List Int} {ripe left : BitVec 32} {T : Int} (I : MInv S0 h L N ripe left) (g : Nat) (h0 : ¬ (ripe.toNat : Int) = 0) :
    ∃ d ripe' L' N', d < 24 ∧ left.getLsbD d = true ∧ l130_20 n S0 h (g + 1) ripe left { S0 with level := L, need := N, touched := T } = l130_20 n S0 h g ripe' (left &&& ~~~((1 : BitVec 32) <<< d)) { S0 with level := L', need := N', touched := T } ∧ MInv S0 h L' N' ripe' (left &&& ~~~((1 : BitVec 32) <<< d)) := by
  obtain ⟨d, hd, e1, hb, hc, a1, a2⟩ := els_cons I.ir h0
  obtain ⟨hld, hcd, hsd⟩ := (I.rip d hd).1 hb
  have hhd := I.sub d hd hld
  have hnl : ∀ e, e < 24 → rdb S0.reads d e = true → left.getLsbD e = false := by
    intro e he hr
    have := (cnt_0.1 hcd) e he
    rw [BitVec.getLsbD_and, rdr_bit, hr, Bool.true_and] at this
    exact this
  have hlev : ∀ e, e < 24 → rdb S0.reads d e = true → 0 ≤ lv L e ∧ lv L e ≤ 47 - cnt left := by
    intro e he hr
    have hl := hnl e he hr
    refine ⟨?_, I.bnd e he hl⟩
    cases hhe : h.getLsbD e with
    | true => exact (I.fin e he hhe hl).1
    | false =>
      rw [I.out e he hhe]
      exact nosick hO hsd he hr hhe
  have hcl := cnt_le left
  obtain ⟨t, t1, t2, t3, t4⟩ := l154_ok n { S0 with level := L, need := N, touched := T } I.lenL (47 - cnt left) (by omega) n (rdr S0 d) 0 (hO.reads.at d) (by have := cnt_le (rdr S0 d); omega) (fun e he hr => by
    have := hlev e he hr
    exact ⟨this.2, by show -1 ≤ lv L e; omega⟩)
  have hset : ∀ r, lv (L.set d t) r = if r = d then t else lv L r := fun r => getD_set _ _ (by rw [I.lenL]; exact hd) r
  have hrb : All24 S0.readBy := hO.rb
  have hlr : ∀ j, j < 24 → h.getLsbD j = true → rdb S0.reads j d = true → left.getLsbD j = true ∧ j ≠ d := by
    intro j hj hhj hr
    constructor
    · cases hl : left.getLsbD j with
      | true => rfl
      | false =>
        have := ((I.fin j hj hhj hl).2.1 d hd hr).1
        rw [hld] at this; cases this
    · intro e
      subst e
      have := hnl j hj hr
      rw [hld] at this; cases this
  have hinv : InvB S0 h left d (ripe &&& (ripe - 1)) (S0.readBy.getD d 0 &&& h) N := by
    refine ⟨a1, in24_and2 hO.ih, I.lenN, ?_, ?_, ?_⟩
    · intro j hj hb2
      rw [BitVec.getLsbD_and, Bool.and_eq_true] at hb2
      exact ⟨hb2.2, by rw [← hO.turn j d hj hd]; exact hb2.1⟩
    · intro r hr hh
      rw [I.need r hr hh]
      by_cases hq : (S0.readBy.getD d 0 &&& h).getLsbD r = true
      · rw [if_pos hq]
      · rw [if_neg hq]
        congr 1
        refine cnt_congr fun j hj => ?_
        rw [BitVec.getLsbD_and, BitVec.getLsbD_and, left_bit hd hj]
        by_cases hjd : j = d
        · subst hjd
          have : rdb S0.reads r j = false := by
            rw [BitVec.getLsbD_and, hh, Bool.and_true] at hq
            rw [← hO.turn r j hr hj]
            simpa [rdb] using hq
          rw [rdr_bit, this]; rfl
        · simp [hjd]
    · intro j hj
      rw [a2, Bool.and_eq_true, I.rip j hj]
      constructor
      · intro ⟨⟨p1, p2, p3⟩, p4⟩
        have hjd : j ≠ d := by simpa using p4
        have hnr : rdb S0.reads j d = false := by
          have := (cnt_0.1 p2) d hd
          rw [BitVec.getLsbD_and, hld, Bool.and_true] at this
          exact this
        refine ⟨⟨p1, hjd⟩, ?_, ?_, p3⟩
        · rw [BitVec.getLsbD_and]
          have := hO.turn j d hj hd
          rw [hnr] at this
          have : (S0.readBy.getD d 0).getLsbD j = false := this
          rw [this]; rfl
        · rw [cnt_0]
          intro i hi
          have := (cnt_0.1 p2) i hi
          rw [BitVec.getLsbD_and] at this
          rw [BitVec.getLsbD_and, left_bit hd hi]
          cases hx : (rdr S0 j).getLsbD i
          · rfl
          · rw [hx, Bool.true_and] at this
            rw [this]; rfl
      · intro ⟨⟨p1, p2⟩, p3, p4, p5⟩
        have hnr : rdb S0.reads j d = false := by
          rw [BitVec.getLsbD_and, I.sub j hj p1, Bool.and_true] at p3
          rw [← hO.turn j d hj hd]; exact p3
        refine ⟨⟨p1, ?_, p5⟩, by simpa using p2⟩
        rw [cnt_0]
        intro i hi
        have := (cnt_0.1 p4) i hi
        rw [BitVec.getLsbD_and, left_bit hd hi] at this
        rw [BitVec.getLsbD_and]
        by_cases hid : i = d
        · subst hid
          rw [rdr_bit, hnr]; rfl
        · simpa [hid] using this
  obtain ⟨ripe', N', f1, f2⟩ := loopB hn hO.reads hd hld hlr (l130_20 n S0 h g) (L.set d t) T n (ripe &&& (ripe - 1)) (S0.readBy.getD d 0 &&& h) N (by have := cnt_le (S0.readBy.getD d 0 &&& h); omega) hinv
  have hcnt : cnt left = cnt (left &&& ~~~((1 : BitVec 32) <<< d)) + 1 := by
    refine cnt_one hd hld ?_ ?_
    · rw [left_bit hd hd]; simp
    · intro j hj hjd
      rw [left_bit hd hj]; simp [hjd]
  refine ⟨d, ripe', L.set d t, N', hd, hld, ?_, ?_⟩
  · show l130_20_st n S0 h (l130_20 n S0 h g) ripe left { S0 with level := L, need := N, touched := T } = _
    unfold l130_20_st
    have t1' : s154 n { S0 with level := L, need := N, touched := T } (S0.reads.getD d 0) = some t := t1
    rw [if_neg h0, bindT e1, bindT (s128_ok hd), bindT (getNd2 (l := ({ S0 with level := L, need := N, touched := T } : GS).reads) 0 hO.reads.1 hd), bindT t1', bindT (getNd2 (l := ({ S0 with level := L, need := N, touched := T } : GS).level) 0 I.lenL hd), bindT (getNd2 (l := ({ S0 with level := L, need := N, touched := T } : GS).readBy) 0 hrb.1 hd), Int.toNat_natCast]
    exact f1
  · refine ⟨by rw [List.length_set]; exact I.lenL, f2.len, f2.i7, in24_and I.il, ?_, ?_, ?_, ?_, ?_, ?_⟩
    · intro j hj hj2
      rw [left_bit hd hj, Bool.and_eq_true] at hj2
      exact I.sub j hj hj2.1
    · intro r hr hh
      rw [f2.need r hr hh, if_neg (by simp)]
    · intro j hj
      rw [f2.rip j hj, left_bit hd hj]
      simp
    · intro r hr hh hl
      rw [left_bit hd hr] at hl
      by_cases hrd : r = d
      · subst hrd
        rw [hset, if_pos rfl]
        refine ⟨t2, fun e he hre => ?_, ?_⟩
        · have hel := hnl e he hre
          have hed : e ≠ r := fun q => by subst q; rw [hld] at hel; cases hel
          rw [hset, if_neg hed, left_bit hd he, hel]
          exact ⟨rfl, (hlev e he hre).1, t3 e he hre⟩
        · rcases t4 with t4 | ⟨e, q1, q2, q3⟩
          · exact Or.inl t4
          · refine Or.inr ⟨e, q1, q2, ?_⟩
            have hel := hnl e q1 q2
            have hed : e ≠ r := fun q => by subst q; rw [hld] at hel; cases hel
            rw [hset, if_neg hed]; exact q3
      · have hl' : left.getLsbD r = false := by simpa [hrd] using hl
        obtain ⟨p1, p2, p3⟩ := I.fin r hr hh hl'
        rw [hset, if_neg hrd]
        have hne : ∀ e, e < 24 → rdb S0.reads r e = true → e ≠ d := fun e he hre q => by
          subst q
          have := (p2 e he hre).1
          rw [hld] at this; cases this
        refine ⟨p1, fun e he hre => ?_, ?_⟩
        · rw [hset, if_neg (hne e he hre), left_bit hd he, (p2 e he hre).1]
          exact ⟨rfl, (p2 e he hre).2⟩
        · rcases p3 with p3 | ⟨e, q1, q2, q3⟩
          · exact Or.inl p3
          · exact Or.inr ⟨e, q1, q2, by rw [hset, if_neg (hne e q1 q2)]; exact q3⟩
    · intro r hr hh
      have hrd : r ≠ d := fun q => by subst q; rw [hhd] at hh; cases hh
      rw [hset, if_neg hrd]
      exact I.out r hr hh
    · intro r hr hl
      rw [left_bit hd hr] at hl
      rw [hset]
      by_cases hrd : r = d
      · rw [if_pos hrd]
        rcases t4 with t4 | ⟨e, q1, q2, q3⟩
        · omega
        · have := (hlev e q1 q2).2
          have q3 : t = lv L e + 1 := q3
          omega
      · rw [if_neg hrd]
        have := I.bnd r hr (by simpa [hrd] using hl)
        omega
theorem mloop (hn : 1000 ≤ n) (hO : OutOk S0 h) (hL : OutLev S0 h) (T : Int) : ∀ (g : Nat) (L N : List Int) (ripe left : BitVec 32), cnt left < g → MInv S0 h L N ripe left →
    ∃ L' N' C', l130_20 n S0 h g ripe left { S0 with level := L, need := N, touched := T } = some { S0 with level := L', cyclic := C', need := N', touched := T } ∧ L'.length = 24 ∧ N'.length = 24 ∧ In24 C' ∧ LevR (rdb S0.reads) (lv L') ∧ ∀ c, c < 24 → (C'.getLsbD c = true ↔ lv L' c = -1) := by
  intro g
  induction g with
  | zero => intro L N ripe left h1; omega
  | succ g ih =>
    intro L N ripe left h1 I
    by_cases h0 : (ripe.toNat : Int) = 0
    · have hcl := cnt_le left
      obtain ⟨L', f1, f2, f3⟩ := loopC (S0 := S0) (h := h) left { S0 with need := N, touched := T } n left L I.il (by omega) I.lenL
      refine ⟨L', N, (S0.cyclic &&& ~~~h) ||| left, ?_, f2, I.lenN, in24_or (in24_and hO.icy) I.il, ?_, ?_⟩
      · show l130_20_st n S0 h (l130_20 n S0 h g) ripe left { S0 with level := L, need := N, touched := T } = _
        unfold l130_20_st
        rw [if_pos h0]
        exact f1
      · -- the levels are right
        have hout : ∀ r, r < 24 → h.getLsbD r = false → lv L' r = lv S0.level r := by
          intro r hr hh
          have : left.getLsbD r = false := by
            cases hl : left.getLsbD r with
            | false => rfl
            | true => rw [I.sub r hr hl] at hh; cases hh
          rw [f3 r hr, if_neg (by simp [this]), I.out r hr hh]
        have hset : ∀ r, r < 24 → h.getLsbD r = true → left.getLsbD r = false → lv L' r = lv L r := by
          intro r hr hh hl
          rw [f3 r hr, if_neg (by simp [hl])]
        have hclos := hO.clos
        refine ⟨?_, ?_, ?_⟩
        · intro r hr
          cases hh : h.getLsbD r with
          | false => rw [hout r hr hh]; exact (hO.bd r hr hh).1
          | true =>
            cases hl : left.getLsbD r with
            | false => rw [hset r hr hh hl]; have := (I.fin r hr hh hl).1; omega
            | true => rw [f3 r hr, if_pos hl]; exact Int.le_refl _
        · intro r hr h0r
          cases hh : h.getLsbD r with
          | false =>
            rw [hout r hr hh] at h0r ⊢
            obtain ⟨p1, p2⟩ := (hL r hr hh).1 h0r
            refine ⟨fun d hd hrd => ?_, ?_⟩
            · rw [hout d hd (hclos r d hr hd hh hrd)]; exact p1 d hd hrd
            · rcases p2 with p2 | ⟨d, q1, q2, q3⟩
              · exact Or.inl p2
              · exact Or.inr ⟨d, q1, q2, by rw [hout d q1 (hclos r d hr q1 hh q2)]; exact q3⟩
          | true =>
            cases hl : left.getLsbD r with
            | true => rw [f3 r hr, if_pos hl] at h0r; omega
            | false =>
              obtain ⟨p1, p2, p3⟩ := I.fin r hr hh hl
              rw [hset r hr hh hl]
              have hsame : ∀ d, d < 24 → left.getLsbD d = false → lv L' d = lv L d := by
                intro d hd hld
                rw [f3 d hd, if_neg (by simp [hld])]
              refine ⟨fun d hd hrd => ?_, ?_⟩
              · obtain ⟨q1, q2, q3⟩ := p2 d hd hrd
                rw [hsame d hd q1]; exact ⟨q2, q3⟩
              · rcases p3 with p3 | ⟨d, q1, q2, q3⟩
                · exact Or.inl p3
                · exact Or.inr ⟨d, q1, q2, by rw [hsame d q1 (p2 d q1 q2).1]; exact q3⟩
        · intro r hr hm
          cases hh : h.getLsbD r with
          | false =>
            rw [hout r hr hh] at hm
            obtain ⟨d, q1, q2, q3⟩ := (hL r hr hh).2 hm
            exact ⟨d, q1, q2, by rw [hout d q1 (hclos r d hr q1 hh q2)]; exact q3⟩
          | true =>
            cases hl : left.getLsbD r with
            | false => rw [hset r hr hh hl] at hm; have := (I.fin r hr hh hl).1; omega
            | true =>
              have hnr : ¬ ripe.getLsbD r = true := by
                have := (zero24 I.ir).1 h0 r hr
                rw [this]; decide
              have hor : ¬ (cnt (rdr S0 r &&& left) = 0 ∧ NoSick S0 h r) := fun q => hnr ((I.rip r hr).2 ⟨hl, q⟩)
              by_cases hz : cnt (rdr S0 r &&& left) = 0
              · have hs : ¬ NoSick S0 h r := fun q => hor ⟨hz, q⟩
                unfold NoSick at hs
                have hin : In24 (rdr S0 r &&& sickOf S0 h) := in24_and (hO.reads.at r)
                rw [zero24 hin] at hs
                obtain ⟨d, hd, hb⟩ : ∃ d, d < 24 ∧ (rdr S0 r &&& sickOf S0 h).getLsbD d = true := by
                  apply Classical.byContradiction
                  intro hn
                  apply hs
                  intro j hj
                  cases hx : (rdr S0 r &&& sickOf S0 h).getLsbD j with
                  | false => rfl
                  | true => exact absurd ⟨j, hj, hx⟩ hn
                unfold sickOf at hb
                rw [BitVec.getLsbD_and, BitVec.getLsbD_and, bnot hd, Bool.and_eq_true, Bool.and_eq_true] at hb
                obtain ⟨b1, b2, b3⟩ := hb
                have hhd : h.getLsbD d = false := by simpa using b3
                exact ⟨d, hd, b1, by rw [hout d hd hhd]; exact (hO.cyc d hd hhd).1 b2⟩
              · obtain ⟨d, hd, hb⟩ : ∃ d, d < 24 ∧ (rdr S0 r &&& left).getLsbD d = true := by
                  apply Classical.byContradiction
                  intro hn
                  apply hz
                  rw [cnt_0]
                  intro j hj
                  cases hx : (rdr S0 r &&& left).getLsbD j with
                  | false => rfl
                  | true => exact absurd ⟨j, hj, hx⟩ hn
                rw [BitVec.getLsbD_and, Bool.and_eq_true] at hb
                exact ⟨d, hd, hb.1, by rw [f3 d hd, if_pos hb.2]⟩
      · intro c hc
        rw [BitVec.getLsbD_or, BitVec.getLsbD_and, bnot hc]
        cases hh : h.getLsbD c with
        | false =>
          have : left.getLsbD c = false := by
            cases hl : left.getLsbD c with
            | false => rfl
            | true => rw [I.sub c hc hl] at hh; cases hh
          rw [this, f3 c hc, if_neg (by simp [this]), I.out c hc hh, ← hO.cyc c hc hh]
          simp
        | true =>
          cases hl : left.getLsbD c with
          | false =>
            rw [f3 c hc, if_neg (by simp [hl])]
            have := (I.fin c hc hh hl).1
            simp; omega
          | true =>
            rw [f3 c hc, if_pos hl]; simp
    · obtain ⟨d, ripe', L1, N1, hd, hld, e, I'⟩ := mstep hn hO (T := T) I g h0
      have hcnt : cnt left = cnt (left &&& ~~~((1 : BitVec 32) <<< d)) + 1 := by
        refine cnt_one hd hld ?_ ?_
        · rw [left_bit hd hd]; simp
        · intro j hj hjd
          rw [left_bit hd hj]; simp [hjd]
      rw [e]
      exact ih L1 N1 ripe' _ (by omega) I'
end
/-- A graph between its calls. -/
structure GInv (S : GS) : Prop where
  reads : All24 S.reads
  rb : All24 S.readBy
  turn : ∀ c d, c < 24 → d < 24 → rdb S.readBy d c = rdb S.reads c d
  lenL : S.level.length = 24
  lenN : S.need.length = 24
  icy : In24 S.cyclic
  lev : LevR (rdb S.reads) (lv S.level)
  top : ∀ c, c < 24 → lv S.level c ≤ 23
  cyc : ∀ c, c < 24 → (S.cyclic.getLsbD c = true ↔ lv S.level c = -1)
/-- The mending. S0: the graph as it was, but for its edges. -/
theorem s130_ok {n : Nat} (hn : 1000 ≤ n) {S : GS} {c : Nat} (hc : c < 24) {R : Nat → Nat → Bool} (hr : All24 S.reads) (hrb : All24 S.readBy) (turn : ∀ c d, c < 24 → d < 24 → rdb S.readBy d c = rdb S.reads c d) (lenL : S.level.length = 24) (lenN : S.need.length = 24) (icy : In24 S.cyclic) (lev : LevR R (lv S.level)) (top : ∀ c, c < 24 → lv S.level c ≤ 23) (cyc : ∀ c, c < 24 → (S.cyclic.getLsbD c = true ↔ lv S.level c = -1)) (ht : S.touched = 0)
    (same : ∀ b, b < 24 → b ≠ c → ∀ d, d < 24 → R b d = rdb S.reads b d) :
    ∃ L' N' C' T', s130 n S (c : Int) = some { S with level := L', cyclic := C', need := N', touched := T' } ∧ L'.length = 24 ∧ N'.length = 24 ∧ In24 C' ∧ LevR (rdb S.reads) (lv L') ∧ ∀ c, c < 24 → (C'.getLsbD c = true ↔ lv L' c = -1) := by
  unfold s130
  rw [bindT (s128_ok hc)]
  obtain ⟨h, e1, ih, hz, hcl⟩ := s109_ok hn S hrb (in24_one hc)
  rw [bindT e1]
  have hch : h.getLsbD c = true := hz c hc (by rw [bone hc]; simp)
  have hout : ∀ b, b < 24 → h.getLsbD b = false → b ≠ c := fun b hb hh q => by subst q; rw [hch] at hh; cases hh
  have hO : OutOk S h := by
    refine ⟨hr, hrb, turn, lenL, icy, ih, ?_, fun r hr hh => ⟨lev.lo r hr, top r hr⟩, fun r hr hh => cyc r hr⟩
    intro r d hr hd hh hrd
    cases hhd : h.getLsbD d with
    | false => rfl
    | true =>
      rw [← turn r d hr hd] at hrd
      rw [hcl d r hd hr hhd hrd] at hh; cases hh
  have hL : OutLev S h := by
    intro b hb hh
    have hbc := hout b hb hh
    refine ⟨fun h0 => ?_, fun hm => ?_⟩
    · obtain ⟨p1, p2⟩ := lev.a b hb h0
      refine ⟨fun d hd hrd => p1 d hd (by rw [same b hb hbc d hd]; exact hrd), ?_⟩
      rcases p2 with p2 | ⟨d, q1, q2, q3⟩
      · exact Or.inl p2
      · exact Or.inr ⟨d, q1, by rw [← same b hb hbc d q1]; exact q2, q3⟩
    · obtain ⟨d, q1, q2, q3⟩ := lev.b b hb hm
      exact ⟨d, q1, by rw [← same b hb hbc d q1]; exact q2, q3⟩
  have hch24 := cnt_le h
  have hIA : InvA S h 0 h S.need S.touched := by
    refine ⟨in24_0, ih, fun _ _ h => h, lenN, by omega, fun r hr h1 h2 => ?_, fun j hj => ?_⟩
    · rw [h1] at h2; cases h2
    · constructor
      · intro h; simp at h
      · intro ⟨p1, p2, _⟩
        rw [p1] at p2; cases p2
  obtain ⟨ripe, N, T, e2, IA⟩ := loopA hn hr ih n 0 h S.need S.touched (by omega) hIA
  have e2 : l130_21 n S h n 0 h S = l130_20 n S h n ripe h { S with need := N, touched := T } := e2
  rw [e2]
  have hM : MInv S h S.level N ripe h := by
    refine ⟨lenL, IA.len, IA.i71, ih, fun _ _ h => h, fun r hr hh => IA.need r hr hh (by simp), fun j hj => ?_, (fun r hr h1 h2 => by rw [h1] at h2; cases h2), fun _ _ _ => rfl, fun r hr hh => by have := top r hr; omega⟩
    rw [IA.rip j hj]
    simp
  obtain ⟨L', N', C', e3, f1, f2, f3, f4, f5⟩ := mloop hn hO hL T n S.level N ripe h (by omega) hM
  exact ⟨L', N', C', T, e3, f1, f2, f3, f4, f5⟩
end Go.Proofs.Qxb6500272aGreat
