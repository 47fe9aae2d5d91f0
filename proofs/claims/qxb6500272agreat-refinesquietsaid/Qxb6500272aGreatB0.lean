/-
  Plain laws, the document: records: wiping, forgetting, noting.
-/
import Derived.Test.Qxb6500272aGreatE4
namespace Go.Proofs.Qxb6500272aGreat
open Go
set_option linter.unusedVariables false
set_option linter.unusedSimpArgs false
abbrev Snap := List (List UInt8)
/-- The pool at slot s, cell c, side i. -/
def pz (P : List (List UInt8)) (s c i : Nat) : List UInt8 := P.getD ((s * 24 + c) * 2 + i) []
theorem pz_set {P : List (List UInt8)} (hP : P.length = 288) {s c i : Nat} (hs : s < 6) (hc : c < 24) (hi : i < 2) (x : List UInt8) {s' c' i' : Nat} (hc' : c' < 24) (hi' : i' < 2) : pz (P.set ((s * 24 + c) * 2 + i) x) s' c' i' = if s' = s ∧ c' = c ∧ i' = i then x else pz P s' c' i' := by
  unfold pz
  rw [getD_set _ _ (by rw [hP]; omega)]
  by_cases h : s' = s ∧ c' = c ∧ i' = i
  · rw [if_pos h, if_pos (by obtain ⟨rfl, rfl, rfl⟩ := h; rfl)]
  · rw [if_neg h, if_neg (fun e => h (by omega))]
theorem s69_ok {s c : Nat} (hs : s < 100) (hc : c < 24) : s69 (s : Int) (c : Int) = some (((s * 24 + c) * 2 : Nat) : Int) := by
  unfold s69
  rw [ckF (by constructor <;> omega), ckF (by constructor <;> omega), ckF (by constructor <;> omega)]
  congr 1
/-- The record of a slot: from the texts a to the texts b. -/
structure RecOk (P : List (List UInt8)) (T : List (BitVec 32)) (s : Nat) (a b : Snap) : Prop where
  in24 : In24 (T.getD s 0)
  on : ∀ c, c < 24 → (T.getD s 0).getLsbD c = true → rw_ a c ≠ rw_ b c ∧ pz P s c 0 = rw_ a c ∧ pz P s c 1 = rw_ b c
  off : ∀ c, c < 24 → (T.getD s 0).getLsbD c = false → rw_ a c = rw_ b c ∧ pz P s c 0 = [] ∧ pz P s c 1 = []
theorem RecOk.dead {P : List (List UInt8)} {T : List (BitVec 32)} {s : Nat} {a : Snap} (h : RecOk P T s a a) (b : Snap) : RecOk P T s b b := by
  refine ⟨h.in24, fun c hc hb => absurd rfl (h.on c hc hb).1, fun c hc hb => ⟨rfl, (h.off c hc hb).2⟩⟩
theorem RecOk.dead0 {P : List (List UInt8)} {T : List (BitVec 32)} {s : Nat} {a : Snap} (h : RecOk P T s a a) : T.getD s 0 = 0 := by
  apply BitVec.eq_of_getLsbD_eq
  intro j hj
  rw [show (0 : BitVec 32).getLsbD j = false by simp]
  by_cases hj24 : j < 24
  · cases hx : (T.getD s 0).getLsbD j with
    | false => rfl
    | true => exact absurd rfl (h.on j hj24 hx).1
  · exact h.in24 j (by omega)
theorem RecOk.congr {P P' : List (List UInt8)} {T T' : List (BitVec 32)} {s : Nat} {a b : Snap} (h : RecOk P T s a b) (hT : T'.getD s 0 = T.getD s 0) (hP : ∀ c i, c < 24 → i < 2 → pz P' s c i = pz P s c i) : RecOk P' T' s a b := by
  refine ⟨by rw [hT]; exact h.in24, fun c hc hb => ?_, fun c hc hb => ?_⟩
  · rw [hT] at hb
    obtain ⟨p1, p2, p3⟩ := h.on c hc hb
    exact ⟨p1, by rw [hP c 0 hc (by omega)]; exact p2, by rw [hP c 1 hc (by omega)]; exact p3⟩
  · rw [hT] at hb
    obtain ⟨p1, p2, p3⟩ := h.off c hc hb
    exact ⟨p1, by rw [hP c 0 hc (by omega)]; exact p2, by rw [hP c 1 hc (by omega)]; exact p3⟩
theorem l91_ok {n : Nat} {s : Nat} (hs : s < 6) (x : BitVec 32) : ∀ (m i g : Nat) (S : BS), i + m = 24 → m < g → S.pool.length = 288 → S.turned.length = 6 →
    ∃ P, l91_3 n (s : Int) x g (i : Int) S = some { S with pool := P, turned := S.turned.set s 0 } ∧ P.length = 288 ∧ ∀ s' c j, c < 24 → j < 2 → pz P s' c j = if s' = s ∧ i ≤ c ∧ x.getLsbD c = true then [] else pz S.pool s' c j := by
  intro m
  induction m with
  | zero =>
    intro i g S h1 h2 h3 h4
    obtain ⟨g, rfl⟩ : ∃ g', g = g' + 1 := ⟨g - 1, by omega⟩
    refine ⟨S.pool, ?_, h3, fun s' c j hc hj => by rw [if_neg (by omega)]⟩
    show l91_3_st n (s : Int) x (l91_3 n (s : Int) x g) (i : Int) S = _
    unfold l91_3_st
    rw [if_neg (by omega), bindT (getNd2 0 h4 hs), Int.toNat_natCast]
  | succ m ih =>
    intro i g S h1 h2 h3 h4
    obtain ⟨g, rfl⟩ : ∃ g', g = g' + 1 := ⟨g - 1, by omega⟩
    have hi : i < 24 := by omega
    show ∃ P, l91_3_st n (s : Int) x (l91_3 n (s : Int) x g) (i : Int) S = _ ∧ _
    unfold l91_3_st
    have k2 : ∀ S, k91_2 (i : Int) (l91_3 n (s : Int) x g) S = l91_3 n (s : Int) x g ((i + 1 : Nat) : Int) S := by
      intro S
      unfold k91_2
      rw [ckF (by constructor <;> omega)]; rfl
    rw [if_pos (by omega), ckF (by omega), ckF (by omega), Int.toNat_natCast]
    by_cases hb : x.getLsbD i = true
    · rw [if_pos (bit_shr.2 hb), bindT (s69_ok (by omega) hi), bindT (getNd2 [] h3 (by omega)), ckF (by constructor <;> omega)]
      rw [show (((s * 24 + i) * 2 : Nat) : Int) + 1 = (((s * 24 + i) * 2 + 1 : Nat) : Int) by omega, Int.toNat_natCast, Int.toNat_natCast]
      rw [bindT (getNd2 [] (by rw [List.length_set]; exact h3) (by omega)), k2]
      obtain ⟨P, e1, e2, e3⟩ := ih (i + 1) g { S with pool := (S.pool.set ((s * 24 + i) * 2) []).set ((s * 24 + i) * 2 + 1) [] } (by omega) (by omega) (by show ((S.pool.set _ _).set _ _).length = 288; rw [List.length_set, List.length_set]; exact h3) h4
      refine ⟨P, e1, e2, fun s' c j hc hj => ?_⟩
      rw [e3 s' c j hc hj]
      show (if _ then [] else pz ((S.pool.set ((s * 24 + i) * 2 + 0) []).set ((s * 24 + i) * 2 + 1) []) s' c j) = _
      rw [pz_set (by rw [List.length_set]; exact h3) hs hi (by omega) _ hc hj, pz_set h3 hs hi (by omega) _ hc hj]
      by_cases hq : s' = s ∧ i ≤ c ∧ x.getLsbD c = true
      · rw [if_pos hq]
        by_cases hci : c = i
        · have : j = 0 ∨ j = 1 := by omega
          rcases this with rfl | rfl
          · rw [if_neg (by omega), if_neg (by omega), if_pos ⟨hq.1, hci, rfl⟩]
          · rw [if_neg (by omega), if_pos ⟨hq.1, hci, rfl⟩]
        · rw [if_pos ⟨hq.1, by omega, hq.2.2⟩]
      · rw [if_neg hq, if_neg (fun h => hq ⟨h.1, by omega, h.2.2⟩), if_neg (fun h => hq ⟨h.1, by omega, by rw [h.2.1]; exact hb⟩), if_neg (fun h => hq ⟨h.1, by omega, by rw [h.2.1]; exact hb⟩)]
    · rw [if_neg (fun q => hb (bit_shr.1 q)), k2]
      obtain ⟨P, e1, e2, e3⟩ := ih (i + 1) g S (by omega) (by omega) h3 h4
      refine ⟨P, e1, e2, fun s' c j hc hj => ?_⟩
      rw [e3 s' c j hc hj]
      by_cases hq : s' = s ∧ i ≤ c ∧ x.getLsbD c = true
      · have : c ≠ i := fun e => hb (by rw [← e]; exact hq.2.2)
        rw [if_pos hq, if_pos ⟨hq.1, by omega, hq.2.2⟩]
      · rw [if_neg hq, if_neg (fun h => hq ⟨h.1, by omega, h.2.2⟩)]
theorem s91_ok {n : Nat} (hn : 1000 ≤ n) {s : Nat} (hs : s < 6) (S : BS) (h3 : S.pool.length = 288) (h4 : S.turned.length = 6) :
    ∃ P, s91 n S (s : Int) = some { S with pool := P, turned := S.turned.set s 0 } ∧ P.length = 288 ∧ (∀ s' a b, s' ≠ s → RecOk S.pool S.turned s' a b → RecOk P (S.turned.set s 0) s' a b) ∧ (∀ a b x, RecOk S.pool S.turned s a b → RecOk P (S.turned.set s 0) s x x) := by
  obtain ⟨P, e1, e2, e3⟩ := l91_ok (n := n) hs (S.turned.getD s 0) 24 0 n S (by omega) (by omega) h3 h4
  refine ⟨P, ?_, e2, ?_, ?_⟩
  · unfold s91
    rw [bindT (getNd2 0 h4 hs)]
    exact e1
  · intro s' a b hne hr
    refine hr.congr (by rw [getD_set _ _ (by rw [h4]; exact hs), if_neg hne]) fun c j hc hj => ?_
    rw [e3 s' c j hc hj, if_neg (fun q => hne q.1)]
  · intro a b x hr
    have hT : (S.turned.set s 0).getD s 0 = 0 := by rw [getD_set _ _ (by rw [h4]; exact hs), if_pos rfl]
    refine ⟨by rw [hT]; exact in24_0, fun c hc hb => by rw [hT] at hb; simp at hb, fun c hc _ => ⟨rfl, ?_, ?_⟩⟩
    · rw [e3 s c 0 hc (by omega)]
      by_cases hb : (S.turned.getD s 0).getLsbD c = true
      · rw [if_pos ⟨rfl, Nat.zero_le _, hb⟩]
      · rw [if_neg (fun q => hb q.2.2)]
        exact (hr.off c hc (by simpa using hb)).2.1
    · rw [e3 s c 1 hc (by omega)]
      by_cases hb : (S.turned.getD s 0).getLsbD c = true
      · rw [if_pos ⟨rfl, Nat.zero_le _, hb⟩]
      · rw [if_neg (fun q => hb q.2.2)]
        exact (hr.off c hc (by simpa using hb)).2.2
/-- The ring of records: hist: the texts that they lead through. -/
structure RG (B : BS) (hist : Nat → Snap) (u r b : Nat) : Prop where
  pl : B.pool.length = 288
  tl : B.turned.length = 6
  wl : B.was.length = 24
  ol : B.out.length = 1056
  base : B.base = (b : Int)
  b6 : b < 6
  un : B.undos = (u : Int)
  re : B.redos = (r : Int)
  ur : u + r ≤ 6
  raws : ∀ k, Raws (hist k)
  recs : ∀ k, k < 6 → RecOk B.pool B.turned ((b + k) % 6) (hist k) (hist (k + 1))
  tail : ∀ k, u + r ≤ k → hist k = hist (u + r)
theorem s43_ok {B : BS} {b : Nat} (hb : B.base = (b : Int)) (h6 : b < 6) {k : Nat} (hk : k ≤ 100) : s43 B (k : Int) = some (((b + k) % 6 : Nat) : Int) := by
  unfold s43
  rw [hb, ckF (by constructor <;> omega), show (b : Int) + (k : Int) = ((b + k : Nat) : Int) by omega, Int.tmod_eq_emod_of_nonneg (by omega)]
  rfl
theorem mod6 {b i j : Nat} (hi : i < 6) (hj : j < 6) (h : (b + i) % 6 = (b + j) % 6) : i = j := by omega
def trunc (hist : Nat → Snap) (m : Nat) (k : Nat) : Snap := hist (min k m)
/-- What can be redone is forgotten. -/
theorem note_redo {n : Nat} (hn : 1000 ≤ n) : ∀ (r g : Nat) (B : BS) (hist : Nat → Snap) (u b : Nat), r < g → RG B hist u r b → ∃ P T, l72_10 n g B = l72_10 n (g - r) { B with pool := P, turned := T, redos := 0 } ∧ RG { B with pool := P, turned := T, redos := 0 } (trunc hist u) u 0 b := by
  intro r
  induction r with
  | zero =>
    intro g B hist u b hg h
    refine ⟨B.pool, B.turned, ?_, ?_⟩
    · have : ({ B with pool := B.pool, turned := B.turned, redos := 0 } : BS) = B := by
        have := h.re
        cases B
        simp only at this ⊢
        rw [this]; rfl
      rw [this, Nat.sub_zero]
    · refine ⟨h.pl, h.tl, h.wl, h.ol, h.base, h.b6, h.un, rfl, h.ur, fun k => h.raws _, fun k hk => ?_, fun k hk => ?_⟩
      · have hrec := h.recs k hk
        unfold trunc
        rcases Nat.lt_or_ge k u with hku | hku
        · rw [Nat.min_eq_left (by omega), Nat.min_eq_left (by omega)]; exact hrec
        · have h1 : hist k = hist u := h.tail k (by omega)
          have h2 : hist (k + 1) = hist u := h.tail (k + 1) (by omega)
          rw [Nat.min_eq_right (by omega), Nat.min_eq_right (by omega)]
          rw [h1, h2] at hrec; exact hrec
      · unfold trunc
        rw [Nat.min_eq_right (by omega), Nat.min_eq_right (by omega)]
  | succ r ih =>
    intro g B hist u b hg h
    obtain ⟨g, rfl⟩ : ∃ g', g = g' + 1 := ⟨g - 1, by omega⟩
    have hre := h.re
    have hun := h.un
    have hur := h.ur
    have hslot : ∀ B' : BS, B'.base = B.base → s43 B' (B.undos + (B.redos - 1)) = some (((b + (u + r)) % 6 : Nat) : Int) := by
      intro B' hb'
      rw [show B.undos + (B.redos - 1) = ((u + r : Nat) : Int) by omega]
      exact s43_ok (by rw [hb']; exact h.base) h.b6 (by omega)
    obtain ⟨P, e1, e2, e3, e4⟩ := s91_ok hn (s := (b + (u + r)) % 6) (by omega) { B with redos := B.redos - 1 } h.pl h.tl
    have hRG : RG { B with redos := B.redos - 1, pool := P, turned := B.turned.set ((b + (u + r)) % 6) 0 } (trunc hist (u + r)) u r b := by
      refine ⟨e2, by show (B.turned.set _ _).length = 6; rw [List.length_set]; exact h.tl, h.wl, h.ol, h.base, h.b6, hun, by show B.redos - 1 = _; omega, by omega, fun k => h.raws _, fun k hk => ?_, fun k hk => ?_⟩
      · have hrec := h.recs k hk
        unfold trunc
        rcases Nat.lt_trichotomy k (u + r) with hku | hku | hku
        · rw [Nat.min_eq_left (by omega), Nat.min_eq_left (by omega)]
          exact e3 _ _ _ (fun e => by have := mod6 hk (by omega) e; omega) hrec
        · subst hku
          rw [Nat.min_eq_left (by omega), Nat.min_eq_right (by omega)]
          exact e4 _ _ _ hrec
        · rw [Nat.min_eq_right (by omega), Nat.min_eq_right (by omega)]
          have h1 : hist k = hist (u + (r + 1)) := h.tail k (by omega)
          have h2 : hist (k + 1) = hist (u + (r + 1)) := h.tail (k + 1) (by omega)
          rw [h1, h2] at hrec
          exact e3 _ _ _ (fun e => by have := mod6 hk (by omega) e; omega) (hrec.dead _)
      · unfold trunc
        rw [Nat.min_eq_right (by omega), Nat.min_eq_right (by omega)]
    obtain ⟨P', T', e5, h5⟩ := ih g _ (trunc hist (u + r)) u b (by omega) hRG
    refine ⟨P', T', ?_, ?_⟩
    · show l72_10_st n (l72_10 n g) B = _
      unfold l72_10_st
      rw [if_pos (by omega), ckF (by constructor <;> omega), ckF (by constructor <;> omega), bindT (hslot { B with redos := B.redos - 1 } rfl), bindT e1]
      refine e5.trans ?_
      rw [show g + 1 - (r + 1) = g - r by omega]
    · have e : trunc (trunc hist (u + r)) u = trunc hist u := by
        funext k
        unfold trunc
        congr 1
        omega
      rw [e] at h5
      exact h5
theorem mem_rw {rs : Snap} (h : Raws rs) {c : Nat} (hc : c < 24) : rs[c]? = some (rw_ rs c) := by
  have := h.1
  unfold rw_
  rw [List.getD_eq_getElem?_getD, List.getElem?_eq_getElem (by omega)]; rfl
theorem snap_ext {a b : Snap} (ha : a.length = 24) (hb : b.length = 24) (h : ∀ c, c < 24 → rw_ a c = rw_ b c) : a = b := by
  apply List.ext_getElem?
  intro c
  by_cases hc : c < 24
  · have := h c hc
    unfold rw_ at this
    rw [List.getD_eq_getElem?_getD, List.getD_eq_getElem?_getD, List.getElem?_eq_getElem (by omega), List.getElem?_eq_getElem (by omega)] at this
    rw [List.getElem?_eq_getElem (by omega), List.getElem?_eq_getElem (by omega)]
    exact congrArg some this
  · rw [List.getElem?_eq_none (by omega), List.getElem?_eq_none (by omega)]
/-- The record itself is written. -/
theorem l72_8_ok {n : Nat} {s : Nat} (hs : s < 6) {was now : Snap} (hw : Raws was) (hnow : Raws now) : ∀ (m i g : Nat) (B : BS) (set : BitVec 32), i + m = 24 → m < g → B.pool.length = 288 → B.turned.length = 6 → B.was = was → B.e.k.raw = now → -1000 ≤ B.undos ∧ B.undos ≤ 1000 →
    ∃ P T, l72_8 n (s : Int) g set (i : Int) B = some { B with pool := P, turned := B.turned.set s T, undos := B.undos + 1 } ∧ P.length = 288 ∧ (∀ s' c j, c < 24 → j < 2 → pz P s' c j = if s' = s ∧ i ≤ c ∧ rw_ was c ≠ rw_ now c then (if j = 0 then rw_ was c else rw_ now c) else pz B.pool s' c j) ∧ (In24 set → In24 T) ∧ (∀ c, c < 24 → T.getLsbD c = (set.getLsbD c || (decide (i ≤ c) && decide (rw_ was c ≠ rw_ now c)))) := by
  intro m
  induction m with
  | zero =>
    intro i g B set h1 h2 h3 h4 h5 h6 h7
    obtain ⟨g, rfl⟩ : ∃ g', g = g' + 1 := ⟨g - 1, by omega⟩
    refine ⟨B.pool, set, ?_, h3, fun s' c j hc hj => by rw [if_neg (by omega)], fun h => h, fun c hc => ?_⟩
    · show l72_8_st n (s : Int) (l72_8 n (s : Int) g) set (i : Int) B = _
      unfold l72_8_st
      rw [if_neg (by omega), bindT (getNd2 0 h4 hs), ckF (by constructor <;> omega), Int.toNat_natCast]
    · have : ¬ i ≤ c := by omega
      simp [this]
  | succ m ih =>
    intro i g B set h1 h2 h3 h4 h5 h6 h7
    obtain ⟨g, rfl⟩ : ∃ g', g = g' + 1 := ⟨g - 1, by omega⟩
    have hi : i < 24 := by omega
    have k7 : ∀ t B, k72_7 (i : Int) (l72_8 n (s : Int) g) t B = l72_8 n (s : Int) g t ((i + 1 : Nat) : Int) B := by
      intro t B
      unfold k72_7
      rw [ckF (by constructor <;> omega)]; rfl
    have hraw : s64 B.e (i : Int) = some (rw_ now i) := by
      unfold s64
      have := s86_ok (K := B.e.k) (by rw [h6]; exact hnow) hi
      rw [h6] at this
      exact bindR this
    have hwas : getN B.was 24 (i : Int) = some (rw_ was i) := by rw [h5]; exact getNd2 [] hw.1 hi
    show ∃ P T, l72_8_st n (s : Int) (l72_8 n (s : Int) g) set (i : Int) B = _ ∧ _
    unfold l72_8_st
    rw [if_pos (by omega), bindT hraw, bindT hwas]
    by_cases hq : rw_ now i = rw_ was i
    · rw [if_pos (by simpa using hq), k7]
      obtain ⟨P, T, e1, e2, e3, e4, e5⟩ := ih (i + 1) g B set (by omega) (by omega) h3 h4 h5 h6 h7
      refine ⟨P, T, e1, e2, fun s' c j hc hj => ?_, e4, fun c hc => ?_⟩
      · rw [e3 s' c j hc hj]
        by_cases hp : s' = s ∧ i ≤ c ∧ rw_ was c ≠ rw_ now c
        · have : c ≠ i := fun e => by subst e; exact hp.2.2 hq.symm
          rw [if_pos hp, if_pos ⟨hp.1, by omega, hp.2.2⟩]
        · rw [if_neg hp, if_neg (fun h => hp ⟨h.1, by omega, h.2.2⟩)]
      · rw [e5 c hc]
        by_cases hci : c = i
        · subst hci
          simp [hq]
        · have : decide (i + 1 ≤ c) = decide (i ≤ c) := by congr 1; simp; omega
          rw [this]
    · rw [if_neg (by simpa using hq), bindT (s69_ok (by omega) hi), bindT (getNd2 [] h3 (by omega)), ckF (by constructor <;> omega)]
      rw [show (((s * 24 + i) * 2 : Nat) : Int) + 1 = (((s * 24 + i) * 2 + 1 : Nat) : Int) by omega, Int.toNat_natCast, Int.toNat_natCast]
      rw [bindT (getNd2 [] (by rw [List.length_set]; exact h3) (by omega)), k7]
      obtain ⟨P, T, e1, e2, e3, e4, e5⟩ := ih (i + 1) g { B with pool := (B.pool.set ((s * 24 + i) * 2) (rw_ was i)).set ((s * 24 + i) * 2 + 1) (rw_ now i) } (set ||| s92 (i : Int)) (by omega) (by omega) (by show ((B.pool.set _ _).set _ _).length = 288; rw [List.length_set, List.length_set]; exact h3) h4 h5 h6 h7
      refine ⟨P, T, e1, e2, fun s' c j hc hj => ?_, fun h => e4 (in24_or h (in24_92 _)), fun c hc => ?_⟩
      · rw [e3 s' c j hc hj]
        show (if _ then _ else pz ((B.pool.set ((s * 24 + i) * 2 + 0) (rw_ was i)).set ((s * 24 + i) * 2 + 1) (rw_ now i)) s' c j) = _
        rw [pz_set (by rw [List.length_set]; exact h3) hs hi (by omega) _ hc hj, pz_set h3 hs hi (by omega) _ hc hj]
        by_cases hp : s' = s ∧ i ≤ c ∧ rw_ was c ≠ rw_ now c
        · rw [if_pos hp]
          by_cases hci : c = i
          · subst hci
            have : j = 0 ∨ j = 1 := by omega
            rcases this with rfl | rfl
            · rw [if_neg (by omega), if_neg (by omega), if_pos ⟨hp.1, rfl, rfl⟩, if_pos rfl]
            · rw [if_neg (by omega), if_pos ⟨hp.1, rfl, rfl⟩, if_neg (by omega)]
          · rw [if_pos ⟨hp.1, by omega, hp.2.2⟩]
        · rw [if_neg hp, if_neg (fun h => hp ⟨h.1, by omega, h.2.2⟩)]
          rw [if_neg (fun h => hp ⟨h.1, by omega, by rw [h.2.1]; exact fun e => hq e.symm⟩), if_neg (fun h => hp ⟨h.1, by omega, by rw [h.2.1]; exact fun e => hq e.symm⟩)]
      · rw [e5 c hc, BitVec.getLsbD_or, s92_bit hi]
        by_cases hci : c = i
        · subst hci
          have : ¬ rw_ was c = rw_ now c := fun e => hq e.symm
          simp [this]
        · have : decide (i + 1 ≤ c) = decide (i ≤ c) := by congr 1; simp; omega
          rw [this]; simp [hci]
/-- The history behind a new command. -/
def hnew (hist : Nat → Snap) (u : Nat) (now : Snap) (k : Nat) : Snap := if k ≤ u then hist k else now
theorem note_new {n : Nat} (hn : 1000 ≤ n) {B : BS} {hist : Nat → Snap} {u b : Nat} (h : RG B hist u 0 b) (hu : u < 6) {now : Snap} (hnow : Raws now) (hw : B.was = hist u) (hraw : B.e.k.raw = now) :
    ∃ P T, k72_9 n B = some { B with pool := P, turned := T, undos := B.undos + 1 } ∧ RG { B with pool := P, turned := T, undos := B.undos + 1 } (hnew hist u now) (u + 1) 0 b := by
  have hun := h.un
  have hs : (b + u) % 6 < 6 := by omega
  obtain ⟨P, T, e1, e2, e3, e4, e5⟩ := l72_8_ok (n := n) hs (h.raws u) hnow 24 0 n B 0 (by omega) (by omega) h.pl h.tl hw hraw (by omega)
  refine ⟨P, B.turned.set ((b + u) % 6) T, ?_, ?_⟩
  · unfold k72_9
    rw [hun, bindT (s43_ok h.base h.b6 (by omega)), ← hun]
    exact e1
  · refine ⟨e2, by show (B.turned.set _ _).length = 6; rw [List.length_set]; exact h.tl, h.wl, h.ol, h.base, h.b6, by show B.undos + 1 = _; omega, h.re, by omega, fun k => ?_, fun k hk => ?_, fun k hk => ?_⟩
    · unfold hnew; split
      · exact h.raws _
      · exact hnow
    · have hrec := h.recs k hk
      by_cases hku : k = u
      · subst hku
        have hT : (B.turned.set ((b + k) % 6) T).getD ((b + k) % 6) 0 = T := by rw [getD_set _ _ (by rw [h.tl]; exact hs), if_pos rfl]
        have hd : RecOk B.pool B.turned ((b + k) % 6) (hist k) (hist k) := by
          rw [h.tail (k + 1) (by omega), show k + 0 = k from rfl] at hrec; exact hrec
        have hd0 := hd.dead0
        have hpz : ∀ c i, c < 24 → i < 2 → pz B.pool ((b + k) % 6) c i = [] := by
          intro c i hc hi
          have := hd.off c hc (by rw [hd0]; simp)
          have hi' : i = 0 ∨ i = 1 := by omega
          rcases hi' with rfl | rfl
          · exact this.2.1
          · exact this.2.2
        have e1 : hnew hist k now k = hist k := by unfold hnew; rw [if_pos (Nat.le_refl _)]
        have e6 : hnew hist k now (k + 1) = now := by unfold hnew; rw [if_neg (by omega)]
        rw [e1, e6]
        refine ⟨by rw [hT]; exact e4 in24_0, fun c hc hb => ?_, fun c hc hb => ?_⟩
        · rw [hT, e5 c hc] at hb
          have hne : rw_ (hist k) c ≠ rw_ now c := by simpa using hb
          exact ⟨hne, by rw [e3 _ c 0 hc (by omega), if_pos ⟨rfl, Nat.zero_le _, hne⟩, if_pos rfl], by rw [e3 _ c 1 hc (by omega), if_pos ⟨rfl, Nat.zero_le _, hne⟩, if_neg (by omega)]⟩
        · rw [hT, e5 c hc] at hb
          have hne : rw_ (hist k) c = rw_ now c := by simpa using hb
          exact ⟨hne, by rw [e3 _ c 0 hc (by omega), if_neg (fun q => q.2.2 hne)]; exact hpz c 0 hc (by omega), by rw [e3 _ c 1 hc (by omega), if_neg (fun q => q.2.2 hne)]; exact hpz c 1 hc (by omega)⟩
      · have hne : (b + k) % 6 ≠ (b + u) % 6 := fun e => hku (mod6 hk hu e)
        have keep : ∀ x y, RecOk B.pool B.turned ((b + k) % 6) x y → RecOk P (B.turned.set ((b + u) % 6) T) ((b + k) % 6) x y := by
          intro x y hr
          refine hr.congr (by rw [getD_set _ _ (by rw [h.tl]; exact hs), if_neg hne]) fun c i hc hi => ?_
          rw [e3 _ c i hc hi, if_neg (fun q => hne q.1)]
        unfold hnew
        rcases Nat.lt_or_ge k u with hlt | hge
        · rw [if_pos (by omega), if_pos (by omega)]
          exact keep _ _ hrec
        · rw [if_neg (by omega), if_neg (by omega)]
          rw [h.tail k (by omega), h.tail (k + 1) (by omega)] at hrec
          exact keep _ _ (hrec.dead _)
    · unfold hnew
      rw [if_neg (by omega), if_neg (by omega)]
end Go.Proofs.Qxb6500272aGreat
