/-
  Plain laws, the graph: Set; Order.
-/
import Derived.Test.Qxb6500272aGreatG4
namespace Go.Proofs.Qxb6500272aGreat
open Go
set_option linter.unusedVariables false
set_option linter.unusedSimpArgs false
theorem l108_1_ok {n : Nat} {c : Nat} (hc : c < 24) (z2 : BitVec 32) (S : GS) : ∀ (g : Nat) (s : BitVec 32) (RB : List (BitVec 32)), In24 s → cnt s < g → All24 RB →
    ∃ RB', l108_1 n (c : Int) z2 ((1 : BitVec 32) <<< c) g s { S with readBy := RB } = l108_1_st n (c : Int) z2 ((1 : BitVec 32) <<< c) (fun _ _ => none) 0 { S with readBy := RB' } ∧ All24 RB' ∧
      ∀ d j, d < 24 → j < 24 → rdb RB' d j = if s.getLsbD d = true then (rdb RB d j && decide (j ≠ c)) else rdb RB d j := by
  intro g
  induction g with
  | zero => intro s RB h1 h2; omega
  | succ g ih =>
    intro s RB h1 h2 h3
    show ∃ RB', l108_1_st n (c : Int) z2 ((1 : BitVec 32) <<< c) (l108_1 n (c : Int) z2 ((1 : BitVec 32) <<< c) g) s { S with readBy := RB } = _ ∧ _
    by_cases h0 : (s.toNat : Int) = 0
    · have : s = 0 := BitVec.eq_of_toNat_eq (by simpa using h0)
      subst this
      refine ⟨RB, ?_, h3, fun d j hd hj => by simp⟩
      unfold l108_1_st
      rw [if_pos h0, if_pos h0]
    · obtain ⟨d, hd, e1, hb, hcs, a1, a2⟩ := els_cons h1 h0
      have hcn : cnt s = cnt (s &&& (s - 1)) + 1 := by unfold cnt; rw [hcs]; rfl
      have hx : In24 (RB.getD d 0 &&& ~~~((1 : BitVec 32) <<< c)) := in24_and (h3.at d)
      obtain ⟨RB', f1, f2, f3⟩ := ih (s &&& (s - 1)) (RB.set d (RB.getD d 0 &&& ~~~((1 : BitVec 32) <<< c))) a1 (by omega) (h3.set hx)
      refine ⟨RB', ?_, f2, fun e j he hj => ?_⟩
      · rw [← f1]
        conv => lhs; unfold l108_1_st
        rw [if_neg h0, bindT e1, bindT (getNd2 (l := ({ S with readBy := RB } : GS).readBy) 0 h3.1 hd), Int.toNat_natCast]
      · rw [f3 e j he hj, a2]
        have hset : rdb (RB.set d (RB.getD d 0 &&& ~~~((1 : BitVec 32) <<< c))) e j = if e = d then (rdb RB d j && decide (j ≠ c)) else rdb RB e j := by
          unfold rdb
          rw [getD_set _ _ (by rw [h3.1]; exact hd)]
          by_cases hed : e = d
          · rw [if_pos hed, if_pos hed, left_bit hc hj]
          · rw [if_neg hed, if_neg hed]
        rw [hset]
        by_cases hed : e = d
        · subst hed
          simp [hb]
        · simp [hed]
theorem l108_0_ok {n : Nat} {c : Nat} (hc : c < 24) (z2 : BitVec 32) (S : GS) : ∀ (g : Nat) (s : BitVec 32) (RB : List (BitVec 32)), In24 s → cnt s < g → All24 RB →
    ∃ RB', l108_0 n (c : Int) z2 ((1 : BitVec 32) <<< c) g s { S with readBy := RB } = l108_0_st n (c : Int) z2 ((1 : BitVec 32) <<< c) (fun _ _ => none) 0 { S with readBy := RB' } ∧ All24 RB' ∧
      ∀ d j, d < 24 → j < 24 → rdb RB' d j = if s.getLsbD d = true then (rdb RB d j || decide (j = c)) else rdb RB d j := by
  intro g
  induction g with
  | zero => intro s RB h1 h2; omega
  | succ g ih =>
    intro s RB h1 h2 h3
    show ∃ RB', l108_0_st n (c : Int) z2 ((1 : BitVec 32) <<< c) (l108_0 n (c : Int) z2 ((1 : BitVec 32) <<< c) g) s { S with readBy := RB } = _ ∧ _
    by_cases h0 : (s.toNat : Int) = 0
    · have : s = 0 := BitVec.eq_of_toNat_eq (by simpa using h0)
      subst this
      refine ⟨RB, ?_, h3, fun d j hd hj => by simp⟩
      unfold l108_0_st
      rw [if_pos h0, if_pos h0]
    · obtain ⟨d, hd, e1, hb, hcs, a1, a2⟩ := els_cons h1 h0
      have hcn : cnt s = cnt (s &&& (s - 1)) + 1 := by unfold cnt; rw [hcs]; rfl
      have hx : In24 (RB.getD d 0 ||| ((1 : BitVec 32) <<< c)) := in24_or (h3.at d) (in24_one hc)
      obtain ⟨RB', f1, f2, f3⟩ := ih (s &&& (s - 1)) (RB.set d (RB.getD d 0 ||| ((1 : BitVec 32) <<< c))) a1 (by omega) (h3.set hx)
      refine ⟨RB', ?_, f2, fun e j he hj => ?_⟩
      · rw [← f1]
        conv => lhs; unfold l108_0_st
        rw [if_neg h0, bindT e1, bindT (getNd2 (l := ({ S with readBy := RB } : GS).readBy) 0 h3.1 hd), Int.toNat_natCast]
      · rw [f3 e j he hj, a2]
        have hset : rdb (RB.set d (RB.getD d 0 ||| ((1 : BitVec 32) <<< c))) e j = if e = d then (rdb RB d j || decide (j = c)) else rdb RB e j := by
          unfold rdb
          rw [getD_set _ _ (by rw [h3.1]; exact hd)]
          by_cases hed : e = d
          · rw [if_pos hed, if_pos hed, BitVec.getLsbD_or, bone hc]
          · rw [if_neg hed, if_neg hed]
        rw [hset]
        by_cases hed : e = d
        · subst hed
          simp [hb]
        · simp [hed]
theorem s108_ok {n : Nat} (hn : 1000 ≤ n) {S : GS} (hS : GInv S) {c : Nat} (hc : c < 24) {r : BitVec 32} (hr : In24 r) : ∃ S', s108 n S (c : Int) r = some (S', 0) ∧ GInv S' ∧ S'.reads = S.reads.set c r := by
  have hmask : ((r &&& ~~~(16777215 : BitVec 32)).toNat : Int) = 0 := by
    rw [bv_zero]
    intro j hj
    rw [BitVec.getLsbD_and, BitVec.getLsbD_not, mall j hj]
    by_cases h : j < 24
    · simp [h]
    · rw [hr j (by omega)]; rfl
  obtain ⟨RB1, e1, r1, q1⟩ := l108_1_ok (n := n) hc r { S with touched := 0 } n (S.reads.getD c 0 &&& ~~~r) S.readBy (in24_and (hS.reads.at c)) (by have := cnt_le (S.reads.getD c 0 &&& ~~~r); omega) hS.rb
  obtain ⟨RB2, e2, r2, q2⟩ := l108_0_ok (n := n) hc r { S with touched := 0 } n (r &&& ~~~(S.reads.getD c 0)) RB1 (in24_and hr) (by have := cnt_le (r &&& ~~~(S.reads.getD c 0)); omega) r1
  have hset : ∀ b d, rdb (S.reads.set c r) b d = if b = c then r.getLsbD d else rdb S.reads b d := by
    intro b d
    unfold rdb
    rw [getD_set _ _ (by rw [hS.reads.1]; exact hc)]
    by_cases h : b = c
    · rw [if_pos h, if_pos h]
    · rw [if_neg h, if_neg h]
  have hturn : ∀ b d, b < 24 → d < 24 → rdb RB2 d b = rdb (S.reads.set c r) b d := by
    intro b d hb hd
    rw [hset, q2 d b hd hb, q1 d b hd hb, BitVec.getLsbD_and, BitVec.getLsbD_and, bnot hd, bnot hd, hS.turn b d hb hd]
    by_cases hbc : b = c
    · subst hbc
      have : (S.reads.getD b 0).getLsbD d = rdb S.reads b d := rfl
      rw [this]
      cases rdb S.reads b d <;> cases r.getLsbD d <;> simp
    · simp [hbc]
  obtain ⟨L', N', C', T', e3, f1, f2, f3, f4, f5⟩ := s130_ok hn (S := { S with reads := S.reads.set c r, readBy := RB2, touched := 0 }) hc (R := rdb S.reads) (hS.reads.set hr) r2 hturn hS.lenL hS.lenN hS.icy hS.lev hS.top hS.cyc rfl (by
    intro b hb hbc d hd
    show rdb S.reads b d = rdb (S.reads.set c r) b d
    rw [hset, if_neg hbc])
  obtain ⟨l, l1, l2, l3⟩ := lev_ex (RD := S.reads.set c r) (hS.reads.set hr)
  refine ⟨{ S with reads := S.reads.set c r, readBy := RB2, level := L', cyclic := C', need := N', touched := T' }, ?_, ⟨hS.reads.set hr, r2, hturn, f1, f2, f3, f4, ?_, f5⟩, rfl⟩
  · unfold s108
    rw [if_neg (by omega), if_neg (by omega), if_pos hmask, bindT (s128_ok hc), bindT (getNd2 0 hS.reads.1 hc)]
    refine e1.trans ?_
    have e2' : l108_0 n (c : Int) r ((1 : BitVec 32) <<< c) n (r &&& ~~~(S.reads.getD c 0)) ⟨S.reads, RB1, S.level, S.cyclic, S.need, 0⟩ = l108_0_st n (c : Int) r ((1 : BitVec 32) <<< c) (fun _ _ => none) 0 ⟨S.reads, RB2, S.level, S.cyclic, S.need, 0⟩ := e2
    have e3' : s130 n ⟨S.reads.set c r, RB2, S.level, S.cyclic, S.need, 0⟩ (c : Int) = some ⟨S.reads.set c r, RB2, L', C', N', T'⟩ := e3
    have hg : getN S.reads 24 (c : Int) = some (S.reads.getD c 0) := getNd2 0 hS.reads.1 hc
    show l108_1_st n (c : Int) r ((1 : BitVec 32) <<< c) (fun _ _ => none) 0 ⟨S.reads, RB1, S.level, S.cyclic, S.need, 0⟩ = _
    unfold l108_1_st
    rw [if_pos (by rfl)]
    refine (bindT hg).trans (e2'.trans ?_)
    unfold l108_0_st
    rw [if_pos (by rfl)]
    refine (bindT hg).trans ?_
    rw [Int.toNat_natCast]
    exact bindT e3'
  · intro c hc
    rw [lev_one f4 l2 c hc]
    exact l3 c hc
/-! ### Order -/
theorem lv_rep (k c : Nat) : lv (List.replicate k 0) c = 0 := by
  unfold lv
  rw [List.getD_eq_getElem?_getD, List.getElem?_replicate]
  split <;> rfl
theorem getLv {l : List Int} {k d : Nat} {x : Int} (hl : l.length = k) (hd : d < k) (hx : lv l d = x) : getN l k (d : Int) = some x := by
  subst hx; exact getNd2 0 hl hd
def fl (E : List Nat) (L : List Int) (l : Nat) : List Nat := E.filter fun c => decide (lv L c = l)
def base (E : List Nat) (L : List Int) : Nat → Nat
  | 0 => 0
  | l + 1 => base E L l + (fl E L l).length
theorem base_mono {E : List Nat} {L : List Int} {l m : Nat} (h : l ≤ m) : base E L l ≤ base E L m := by
  induction h with
  | refl => exact Nat.le_refl _
  | step _ ih => exact Nat.le_trans ih (Nat.le_add_right _ _)
theorem base_dec {E : List Nat} {L : List Int} : ∀ (m i : Nat), i < base E L m → ∃ l k, l < m ∧ k < (fl E L l).length ∧ i = base E L l + k := by
  intro m
  induction m with
  | zero => intro i h; exact absurd h (Nat.not_lt_zero _)
  | succ m ih =>
    intro i h
    rcases Nat.lt_or_ge i (base E L m) with h1 | h1
    · obtain ⟨l, k, p1, p2, p3⟩ := ih i h1
      exact ⟨l, k, by omega, p2, p3⟩
    · have h : i < base E L m + (fl E L m).length := h
      exact ⟨m, i - base E L m, by omega, by omega, by omega⟩
theorem fl_cons (c : Nat) (E : List Nat) (L : List Int) (l : Nat) : fl (c :: E) L l = if lv L c = l then c :: fl E L l else fl E L l := by
  unfold fl
  by_cases h : lv L c = l
  · rw [if_pos h, List.filter_cons_of_pos (by simpa using h)]
  · rw [if_neg h, List.filter_cons_of_neg (by simpa using h)]
theorem fl_snoc (P : List Nat) (c : Nat) (L : List Int) (l : Nat) : fl (P ++ [c]) L l = if lv L c = l then fl P L l ++ [c] else fl P L l := by
  unfold fl
  rw [List.filter_append]
  by_cases h : lv L c = l
  · rw [if_pos h, List.filter_cons_of_pos (by simpa using h)]; rfl
  · rw [if_neg h, List.filter_cons_of_neg (by simpa using h)]; simp
theorem base_len {E : List Nat} {L : List Int} (h : ∀ c ∈ E, 0 ≤ lv L c ∧ lv L c ≤ 23) : base E L 24 = E.length := by
  have sum : ∀ (c : Nat) (E : List Nat), ∀ m : Nat, 0 ≤ lv L c → base (c :: E) L m = base E L m + if lv L c < m then 1 else 0 := by
    intro c E m h0
    induction m with
    | zero => simp [base]; omega
    | succ m ih =>
      show base (c :: E) L m + (fl (c :: E) L m).length = base E L m + (fl E L m).length + _
      rw [ih, fl_cons]
      by_cases hq : lv L c = (m : Int)
      · rw [if_pos hq, if_neg (by omega), if_pos (by omega)]
        simp; omega
      · rw [if_neg hq]
        by_cases hlt : lv L c < (m : Int)
        · rw [if_pos hlt, if_pos (by omega)]; omega
        · rw [if_neg hlt, if_neg (by omega)]; omega
  induction E with
  | nil =>
    have : ∀ m, base [] L m = 0 := by
      intro m
      induction m with
      | zero => rfl
      | succ m ih => show base [] L m + (fl [] L m).length = 0; rw [ih]; rfl
    rw [this]; rfl
  | cons c E ih =>
    have hc := h c (List.mem_cons_self ..)
    rw [sum c E 24 hc.1, ih (fun d hd => h d (List.mem_cons_of_mem _ hd)), if_pos (by omega)]
    rfl
section
variable {n : Nat} {S : GS} {z : BitVec 32}
/-- First: how many cells of each level. -/
theorem l112_2_ok (hn : 1000 ≤ n) (hL : S.level.length = 24) (z1 : BitVec 32) : ∀ (g : Nat) (s : BitVec 32) (m : Nat) (a : List Int) (P : List Nat), In24 s → cnt s < g → a.length = 25 → m + cnt s ≤ 24 → P.length = m → (∀ c, c < 24 → s.getLsbD c = true → 0 ≤ lv S.level c ∧ lv S.level c ≤ 23) → lv a 0 = 0 → (∀ l, l < 24 → lv a (l + 1) = (fl P S.level l).length) →
    ∃ a', l112_2 n S z1 g (m : Int) s a = l112_1 n S z1 ((m + cnt s : Nat) : Int) n 1 a' ∧ a'.length = 25 ∧ lv a' 0 = 0 ∧ ∀ l, l < 24 → lv a' (l + 1) = (fl (P ++ els s) S.level l).length := by
  intro g
  induction g with
  | zero => intro s m a P h1 h2; omega
  | succ g ih =>
    intro s m a P h1 h2 h3 h4 h5 h6 h7 h8
    show ∃ a', l112_2_st n S z1 (l112_2 n S z1 g) (m : Int) s a = _ ∧ _
    unfold l112_2_st
    by_cases h0 : (s.toNat : Int) = 0
    · have : s = 0 := BitVec.eq_of_toNat_eq (by simpa using h0)
      subst this
      have hc0 : cnt (0 : BitVec 32) = 0 := cnt_0.2 (fun j _ => by simp)
      rw [if_pos h0, hc0, Nat.add_zero, els_nil h1 h0, List.append_nil]
      exact ⟨a, rfl, h3, h7, h8⟩
    · obtain ⟨d, hd, e1, hb, hcs, a1, a2⟩ := els_cons h1 h0
      have hcn : cnt s = cnt (s &&& (s - 1)) + 1 := by unfold cnt; rw [hcs]; rfl
      obtain ⟨l0, l23⟩ := h6 d hd hb
      obtain ⟨l, hl⟩ : ∃ l : Nat, lv S.level d = (l : Int) := ⟨(lv S.level d).toNat, by omega⟩
      have hP : (fl P S.level l).length ≤ 24 := by
        have : (fl P S.level l).length ≤ P.length := List.length_filter_le _ _
        omega
      have ha := h8 l (by omega)
      rw [if_neg h0, bindT e1, bindT (getLv hL hd hl), ckF (by constructor <;> omega), show (l : Int) + 1 = ((l + 1 : Nat) : Int) by omega, bindT (getLv h3 (by omega) ha), ckF (by constructor <;> omega), ckF (by constructor <;> omega), Int.toNat_natCast]
      have hset : ∀ q, lv (a.set (l + 1) (((fl P S.level l).length : Int) + 1)) q = if q = l + 1 then ((fl P S.level l).length : Int) + 1 else lv a q := fun q => getD_set _ _ (by omega) q
      obtain ⟨a', f1, f2, f3, f4⟩ := ih (s &&& (s - 1)) (m + 1) (a.set (l + 1) (((fl P S.level l).length : Int) + 1)) (P ++ [d]) a1 (by omega) (by rw [List.length_set]; exact h3) (by omega) (by simp; omega) (fun c hc hbc => by rw [a2] at hbc; exact h6 c hc (by simpa using And.left (by simpa using hbc)))
        (by rw [hset, if_neg (by omega)]; exact h7) (by
          intro q hq
          rw [hset, fl_snoc, hl]
          by_cases hql : q = l
          · subst hql
            rw [if_pos rfl, if_pos rfl]; simp
          · rw [if_neg (by omega), if_neg (by omega)]
            exact h8 q hq)
      refine ⟨a', ?_, f2, f3, ?_⟩
      · rw [show m + cnt s = m + 1 + cnt (s &&& (s - 1)) by omega]
        exact f1
      · rw [hcs]
        intro q hq
        rw [f4 q hq, List.append_assoc]; rfl
/-- Second: where each level begins. -/
theorem l112_1_ok (z1 : BitVec 32) (m : Nat) (E : List Nat) (hE : E.length ≤ 24) : ∀ (k i g : Nat) (a : List Int), i + k = 25 → k < g → 1 ≤ i → a.length = 25 → (∀ l, l < i → lv a l = base E S.level l) → (∀ l, i ≤ l → l < 25 → lv a l = (fl E S.level (l - 1)).length) →
    ∃ a', l112_1 n S z1 (m : Int) g (i : Int) a = l112_1_st n S z1 (m : Int) (fun _ _ => none) 25 a' ∧ a'.length = 25 ∧ ∀ l, l < 25 → lv a' l = base E S.level l := by
  have hb : ∀ l, l ≤ 25 → base E S.level l ≤ 24 * 25 := by
    intro l hl
    have : ∀ l, base E S.level l ≤ 24 * l := by
      intro l
      induction l with
      | zero => exact Nat.le_refl _
      | succ l ih =>
        show base E S.level l + (fl E S.level l).length ≤ _
        have : (fl E S.level l).length ≤ E.length := List.length_filter_le _ _
        omega
    have := this l
    omega
  intro k
  induction k with
  | zero =>
    intro i g a h1 h2 h3 h4 h5 h6
    obtain ⟨g, rfl⟩ : ∃ g', g = g' + 1 := ⟨g - 1, by omega⟩
    have : i = 25 := by omega
    subst this
    refine ⟨a, ?_, h4, h5⟩
    show l112_1_st n S z1 (m : Int) (l112_1 n S z1 (m : Int) g) (25 : Int) a = _
    unfold l112_1_st
    rw [if_neg (by decide), if_neg (by decide)]
  | succ k ih =>
    intro i g a h1 h2 h3 h4 h5 h6
    obtain ⟨g, rfl⟩ : ∃ g', g = g' + 1 := ⟨g - 1, by omega⟩
    show ∃ a', l112_1_st n S z1 (m : Int) (l112_1 n S z1 (m : Int) g) (i : Int) a = _ ∧ _
    have p1 := h6 i (Nat.le_refl _) (by omega)
    have p2 := h5 (i - 1) (by omega)
    have p3 := hb (i - 1) (by omega)
    have p4 : (fl E S.level (i - 1)).length ≤ E.length := List.length_filter_le _ _
    conv => enter [1, a', 1, 1]; unfold l112_1_st
    rw [if_pos (by omega), bindT (getLv h4 (by omega) p1), ckF (by constructor <;> omega), show (i : Int) - 1 = ((i - 1 : Nat) : Int) by omega, bindT (getLv h4 (by omega) p2), ckF (by constructor <;> omega), ckF (by constructor <;> omega), Int.toNat_natCast]
    have hset : ∀ q, lv (a.set i (((fl E S.level (i - 1)).length : Int) + (base E S.level (i - 1) : Int))) q = if q = i then ((fl E S.level (i - 1)).length : Int) + (base E S.level (i - 1) : Int) else lv a q := fun q => getD_set _ _ (by omega) q
    refine ih (i + 1) g _ (by omega) (by omega) (by omega) (by rw [List.length_set]; exact h4) ?_ ?_
    · intro l hl
      rw [hset]
      by_cases hli : l = i
      · subst hli
        rw [if_pos rfl]
        obtain ⟨q, rfl⟩ : ∃ q, l = q + 1 := ⟨l - 1, by omega⟩
        show _ = ((base E S.level q + (fl E S.level q).length : Nat) : Int)
        simp; omega
      · rw [if_neg hli]; exact h5 l (by omega)
    · intro l h1' h2'
      rw [hset, if_neg (by omega)]
      exact h6 l (by omega) h2'
/-- Third: each cell to its place. -/
theorem l112_0_ok (hL : S.level.length = 24) (E : List Nat) (hE : ∀ c ∈ E, c < 24 ∧ 0 ≤ lv S.level c ∧ lv S.level c ≤ 23) (hEl : E.length ≤ 24) : ∀ (g : Nat) (s : BitVec 32) (P : List Nat) (out a : List Int), In24 s → cnt s < g → E = P ++ els s → out.length = E.length → a.length = 25 → (∀ l, l < 24 → lv a l = base E S.level l + (fl P S.level l).length) →
    (∀ l k c : Nat, l < 24 → (fl P S.level l)[k]? = some c → out[base E S.level l + k]? = some (c : Int)) →
    ∃ out', l112_0 n S (E.length : Int) g s out a = some out' ∧ out'.length = E.length ∧ ∀ l k c : Nat, l < 24 → (fl E S.level l)[k]? = some c → out'[base E S.level l + k]? = some (c : Int) := by
  have hbl : base E S.level 24 = E.length := base_len (fun c hc => (hE c hc).2)
  intro g
  induction g with
  | zero => intro s P out a h1 h2; omega
  | succ g ih =>
    intro s P out a h1 h2 h3 h4 h5 h6 h7
    show ∃ out', l112_0_st n S (E.length : Int) (l112_0 n S (E.length : Int) g) s out a = _ ∧ _
    unfold l112_0_st
    by_cases h0 : (s.toNat : Int) = 0
    · rw [if_pos h0, Int.toNat_natCast, ckF h4.symm]
      rw [els_nil h1 h0, List.append_nil] at h3
      rw [h3]
      exact ⟨out, rfl, by rw [h4, h3], by rw [h3] at h7; exact h7⟩
    · obtain ⟨d, hd, e1, hb, hcs, a1, a2⟩ := els_cons h1 h0
      have hcn : cnt s = cnt (s &&& (s - 1)) + 1 := by unfold cnt; rw [hcs]; rfl
      have hdE : d ∈ E := by rw [h3, hcs]; simp
      obtain ⟨_, l0, l23⟩ := hE d hdE
      obtain ⟨l, hl⟩ : ∃ l : Nat, lv S.level d = (l : Int) := ⟨(lv S.level d).toNat, by omega⟩
      have ha := h6 l (by omega)
      have hle : (fl P S.level l).length + 1 ≤ (fl E S.level l).length := by
        have e : E = (P ++ [d]) ++ els (s &&& (s - 1)) := by rw [h3, hcs]; simp
        have : fl E S.level l = fl (P ++ [d]) S.level l ++ fl (els (s &&& (s - 1))) S.level l := by
          rw [e]; unfold fl; rw [List.filter_append]
        rw [this, fl_snoc, hl, if_pos rfl]
        simp only [List.length_append, List.length_singleton]; omega
      have hbm : base E S.level (l + 1) ≤ base E S.level 24 := base_mono (by omega)
      have hbs : base E S.level (l + 1) = base E S.level l + (fl E S.level l).length := rfl
      have ha : lv a l = ((base E S.level l + (fl P S.level l).length : Nat) : Int) := by rw [ha]; omega
      rw [if_neg h0, bindT e1, bindT (getLv hL hd hl), bindT (getLv h5 (by omega) ha), Int.toNat_natCast, bindT (getNd2 0 h4 (by omega)), ckF (by constructor <;> omega), Int.toNat_natCast, Int.toNat_natCast]
      have hset : ∀ q, lv (a.set l (((base E S.level l + (fl P S.level l).length : Nat) : Int) + 1)) q = if q = l then ((base E S.level l + (fl P S.level l).length : Nat) : Int) + 1 else lv a q := fun q => getD_set _ _ (by omega) q
      refine ih (s &&& (s - 1)) (P ++ [d]) _ _ a1 (by omega) (by rw [h3, hcs]; simp) (by rw [List.length_set]; exact h4) (by rw [List.length_set]; exact h5) ?_ ?_
      · intro q hq
        rw [hset, fl_snoc, hl]
        by_cases hql : q = l
        · subst hql
          rw [if_pos rfl, if_pos rfl]
          simp; omega
        · rw [if_neg hql, if_neg (by omega)]
          exact h6 q hq
      · intro q k c hq hk
        rw [fl_snoc, hl] at hk
        have hklt : ∀ c', (fl P S.level q)[k]? = some c' → base E S.level q + k ≠ base E S.level l + (fl P S.level l).length := by
          intro c' hk' heq
          have hkl := (List.getElem?_eq_some_iff.1 hk').1
          have hPE : (fl P S.level q).length ≤ (fl E S.level q).length := by
            have : fl E S.level q = fl P S.level q ++ fl (els s) S.level q := by rw [h3]; unfold fl; rw [List.filter_append]
            rw [this, List.length_append]; omega
          rcases Nat.lt_trichotomy q l with h | h | h
          · have := base_mono (E := E) (L := S.level) (show q + 1 ≤ l from h)
            have e : base E S.level (q + 1) = base E S.level q + (fl E S.level q).length := rfl
            omega
          · subst h; omega
          · have := base_mono (E := E) (L := S.level) (show l + 1 ≤ q from h)
            omega
        by_cases hql : q = l
        · subst hql
          rw [if_pos rfl] at hk
          rcases Nat.lt_or_ge k (fl P S.level q).length with hlt | hge
          · rw [List.getElem?_append_left hlt] at hk
            rw [List.getElem?_set_ne (fun e => hklt c hk e.symm)]
            exact h7 q k c hq hk
          · rw [List.getElem?_append_right hge] at hk
            have : k = (fl P S.level q).length := by
              have := (List.getElem?_eq_some_iff.1 hk).1
              simp at this
              omega
            subst this
            simp at hk
            subst hk
            rw [List.getElem?_set_self (by omega)]
        · rw [if_neg (by omega)] at hk
          rw [List.getElem?_set_ne (fun e => hklt c hk e.symm)]
          exact h7 q k c hq hk
/-- What Order's list is. -/
structure OrdOk (L : List Int) (z : BitVec 32) (l : List Int) : Prop where
  mem : ∀ (i : Nat) (x : Int), l[i]? = some x → ∃ c : Nat, x = (c : Int) ∧ c < 24 ∧ z.getLsbD c = true ∧ 0 ≤ lv L c
  all : ∀ c : Nat, c < 24 → z.getLsbD c = true → 0 ≤ lv L c → ∃ i : Nat, l[i]? = some (c : Int)
  sorted : ∀ (i j c d : Nat), i < j → l[i]? = some (c : Int) → l[j]? = some (d : Int) → lv L c ≤ lv L d
  len : l.length ≤ 24
theorem s112_ok (hn : 1000 ≤ n) (hS : GInv S) (hz : In24 z) : ∃ l, s112 n S z = some l ∧ OrdOk S.level z l := by
  unfold s112
  rw [ball hz]
  have hin : In24 (z &&& ~~~S.cyclic) := in24_and hz
  have hsb : ∀ c, c < 24 → ((z &&& ~~~S.cyclic).getLsbD c = true ↔ z.getLsbD c = true ∧ 0 ≤ lv S.level c) := by
    intro c hc
    have h1 := hS.cyc c hc
    have h2 := hS.lev.lo c hc
    rw [BitVec.getLsbD_and, bnot hc, Bool.and_eq_true]
    constructor
    · intro ⟨p1, p2⟩
      refine ⟨p1, ?_⟩
      by_cases q : lv S.level c = -1
      · rw [h1.2 q] at p2; cases p2
      · omega
    · intro ⟨p1, p2⟩
      refine ⟨p1, ?_⟩
      cases hx : S.cyclic.getLsbD c with
      | false => rfl
      | true => have := h1.1 hx; omega
  by_cases h0 : ((z &&& ~~~S.cyclic).toNat : Int) = 0
  · rw [if_pos h0]
    refine ⟨[], rfl, fun i x h => by simp at h, fun c hc h1 h2 => ?_, fun i j c d _ h => by simp at h, by simp⟩
    have := (zero24 hin).1 h0 c hc
    rw [(hsb c hc).2 ⟨h1, h2⟩] at this; cases this
  · rw [if_neg h0]
    generalize hs : z &&& ~~~S.cyclic = s at *
    have hE : ∀ c ∈ els s, c < 24 ∧ 0 ≤ lv S.level c ∧ lv S.level c ≤ 23 := by
      intro c hc
      obtain ⟨h1, h2⟩ := mem_els.1 hc
      exact ⟨h1, ((hsb c h1).1 h2).2, hS.top c h1⟩
    have hEl := els_len s
    obtain ⟨a1, e1, f1, f2, f3⟩ := l112_2_ok hn hS.lenL z n s 0 (List.replicate 25 0) [] hin (by have := cnt_le s; omega) (by simp) (by have := cnt_le s; omega) rfl (fun c hc hb => ⟨((hsb c hc).1 hb).2, hS.top c hc⟩) (lv_rep 25 0) (by intro l hl; rw [lv_rep]; rfl)
    have e1 : l112_2 n S z n (0 : Int) s (List.replicate 25 0) = l112_1 n S z ((0 + cnt s : Nat) : Int) n 1 a1 := e1
    rw [e1]
    rw [List.nil_append] at f3
    obtain ⟨a2, e2, g1, g2⟩ := l112_1_ok (n := n) (S := S) z (0 + cnt s) (els s) hEl 24 1 n a1 (by omega) (by omega) (by omega) f1 (by
      intro l hl
      have : l = 0 := by omega
      subst this
      rw [f2]; rfl) (by
      intro l h1 h2
      have := f3 (l - 1) (by omega)
      rw [show l - 1 + 1 = l by omega] at this
      exact this)
    have e2 : l112_1 n S z ((0 + cnt s : Nat) : Int) n (1 : Int) a1 = _ := e2
    rw [e2]
    unfold l112_1_st
    rw [if_neg (by decide), ckF (by have := cnt_le s; omega), Nat.zero_add, ball hz, hs]
    have hc : cnt s = (els s).length := rfl
    rw [hc]
    obtain ⟨out, e3, k1, k2⟩ := l112_0_ok (n := n) hS.lenL (els s) hE hEl n s [] (List.replicate (Int.toNat ((els s).length : Int)) 0) a2 hin (by have := cnt_le s; omega) rfl (by simp) g1 (by intro l hl; rw [g2 l (by omega)]; simp [fl]) (by intro l k c hl hk; simp [fl] at hk)
    refine ⟨out, e3, ?_, ?_, ?_, by rw [k1]; exact hEl⟩
    · intro i x hx
      have hi := (List.getElem?_eq_some_iff.1 hx).1
      rw [k1, ← base_len (L := S.level) (fun c hc => (hE c hc).2)] at hi
      obtain ⟨l, k, p1, p2, p3⟩ := base_dec 24 i hi
      have hq := k2 l k ((fl (els s) S.level l)[k]'p2) p1 (List.getElem?_eq_getElem p2)
      rw [← p3, hx] at hq
      injection hq with hq
      have hm : (fl (els s) S.level l)[k]'p2 ∈ els s := (List.mem_filter.1 (List.getElem_mem p2)).1
      obtain ⟨q1, q2⟩ := mem_els.1 hm
      exact ⟨_, hq, q1, (hsb _ q1).1 q2⟩
    · intro c hc h1 h2
      have hm : c ∈ els s := mem_els.2 ⟨hc, (hsb c hc).2 ⟨h1, h2⟩⟩
      have hl : lv S.level c = (((lv S.level c).toNat : Nat) : Int) := by omega
      have hf : c ∈ fl (els s) S.level (lv S.level c).toNat := List.mem_filter.2 ⟨hm, by rw [decide_eq_true_iff]; exact hl⟩
      obtain ⟨k, hk⟩ := List.mem_iff_getElem?.1 hf
      have := hS.top c hc
      exact ⟨_, k2 _ k c (by omega) hk⟩
    · intro i j c d hij hi hj
      have dec : ∀ (i c : Nat), out[i]? = some (c : Int) → ∃ l : Nat, l < 24 ∧ lv S.level c = (l : Int) ∧ base (els s) S.level l ≤ i ∧ i < base (els s) S.level (l + 1) := by
        intro i c hx
        have hi := (List.getElem?_eq_some_iff.1 hx).1
        rw [k1, ← base_len (L := S.level) (fun c hc => (hE c hc).2)] at hi
        obtain ⟨l, k, p1, p2, p3⟩ := base_dec 24 i hi
        have hq := k2 l k ((fl (els s) S.level l)[k]'p2) p1 (List.getElem?_eq_getElem p2)
        rw [← p3, hx] at hq
        injection hq with hq
        have hm := (List.mem_filter.1 (List.getElem_mem p2)).2
        rw [decide_eq_true_iff] at hm
        have : c = (fl (els s) S.level l)[k]'p2 := by omega
        refine ⟨l, p1, by rw [this]; exact hm, by omega, ?_⟩
        show i < base (els s) S.level l + (fl (els s) S.level l).length
        omega
      obtain ⟨l, _, q2, q3, q4⟩ := dec i c hi
      obtain ⟨m, _, r2, r3, r4⟩ := dec j d hj
      rw [q2, r2]
      rcases Nat.lt_or_ge m l with h | h
      · have := base_mono (E := els s) (L := S.level) (show m + 1 ≤ l from h)
        omega
      · omega
end
end Go.Proofs.Qxb6500272aGreat
