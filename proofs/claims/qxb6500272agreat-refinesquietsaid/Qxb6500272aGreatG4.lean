/-
  Plain laws, the graph: the model's rounds; levels are one.
-/
import Derived.Test.Qxb6500272aGreatG3
namespace Go.Proofs.Qxb6500272aGreat
open Go
set_option linter.unusedVariables false
set_option linter.unusedSimpArgs false
def Sub (S : GMS) (sound : BitVec 32) (c : Nat) : Prop := ((S.reads.getD c 0 &&& ~~~sound).toNat : Int) = 0
theorem sub_iff {S : GMS} (hS : All24 S.reads) {sound : BitVec 32} {c : Nat} : Sub S sound c ↔ ∀ d, d < 24 → rdb S.reads c d = true → sound.getLsbD d = true := by
  unfold Sub
  rw [zero24 (in24_and (hS.at c))]
  constructor
  · intro h d hd hr
    have := h d hd
    rw [BitVec.getLsbD_and, bnot hd, show (S.reads.getD c 0).getLsbD d = true from hr, Bool.true_and] at this
    simpa using this
  · intro h d hd
    rw [BitVec.getLsbD_and, bnot hd]
    cases hx : (S.reads.getD c 0).getLsbD d
    · rfl
    · rw [h d hd hx]; rfl
theorem l161_6_ok {n : Nat} {S : GMS} (hS : All24 S.reads) (sound : BitVec 32) (k : Nat) (hk : k < 24) (rec : BitVec 32 → Int → List Int → Option (List Int)) : ∀ (m i g : Nat) (now : BitVec 32) (a : List Int), i + m = 24 → m < g → In24 now → a.length = 24 →
    ∃ now' a', l161_6 n S sound (k : Int) rec g now (i : Int) a = rec now' ((k : Int) + 1) a' ∧ a'.length = 24 ∧ In24 now' ∧
      (∀ c, c < 24 → (i ≤ c ∧ lv a c < 0 ∧ Sub S sound c → lv a' c = k ∧ now'.getLsbD c = true) ∧ (¬ (i ≤ c ∧ lv a c < 0 ∧ Sub S sound c) → lv a' c = lv a c ∧ now'.getLsbD c = now.getLsbD c)) := by
  intro m
  induction m with
  | zero =>
    intro i g now a h1 h2 h3 h4
    obtain ⟨g, rfl⟩ : ∃ g', g = g' + 1 := ⟨g - 1, by omega⟩
    refine ⟨now, a, ?_, h4, h3, fun c hc => ⟨fun h => by omega, fun _ => ⟨rfl, rfl⟩⟩⟩
    show l161_6_st n S sound (k : Int) rec (l161_6 n S sound (k : Int) rec g) now (i : Int) a = _
    unfold l161_6_st
    rw [if_neg (by omega), ckF (by constructor <;> omega)]
  | succ m ih =>
    intro i g now a h1 h2 h3 h4
    obtain ⟨g, rfl⟩ : ∃ g', g = g' + 1 := ⟨g - 1, by omega⟩
    have hi : i < 24 := by omega
    show ∃ now' a', l161_6_st n S sound (k : Int) rec (l161_6 n S sound (k : Int) rec g) now (i : Int) a = _ ∧ _
    unfold l161_6_st
    rw [if_pos (by omega), bindT (getNd2 0 h4 hi)]
    have k5 : ∀ now a, k161_5 (i : Int) (l161_6 n S sound (k : Int) rec g) now a = l161_6 n S sound (k : Int) rec g now ((i + 1 : Nat) : Int) a := by
      intro now a
      unfold k161_5
      rw [ckF (by constructor <;> omega)]
      rfl
    by_cases hneg : a.getD i 0 < 0
    · rw [if_pos hneg, bindT (getNd2 0 hS.1 hi)]
      by_cases hs : Sub S sound i
      · rw [if_pos (show ((S.reads.getD i 0 &&& ~~~sound).toNat : Int) = 0 from hs), k5, Int.toNat_natCast]
        obtain ⟨now', a', e, f1, f2, f3⟩ := ih (i + 1) g (now ||| s92 (i : Int)) (a.set i (k : Int)) (by omega) (by omega) (in24_or h3 (in24_92 _)) (by rw [List.length_set]; exact h4)
        have hset : ∀ c, lv (a.set i (k : Int)) c = if c = i then (k : Int) else lv a c := fun c => getD_set _ _ (by rw [h4]; exact hi) c
        refine ⟨now', a', e, f1, f2, fun c hc => ?_⟩
        obtain ⟨p1, p2⟩ := f3 c hc
        by_cases hci : c = i
        · subst hci
          obtain ⟨q1, q2⟩ := p2 (by omega)
          rw [hset, if_pos rfl] at q1
          rw [BitVec.getLsbD_or, s92_bit hi] at q2
          refine ⟨fun _ => ⟨q1, by rw [q2]; simp⟩, fun hn => absurd ⟨Nat.le_refl _, hneg, hs⟩ hn⟩
        · rw [hset, if_neg hci] at p1 p2
          rw [BitVec.getLsbD_or, s92_bit hi] at p2
          refine ⟨fun hh => p1 ⟨by omega, hh.2.1, hh.2.2⟩, fun hh => ?_⟩
          have := p2 (fun q => hh ⟨by omega, q.2.1, q.2.2⟩)
          simpa [hci] using this
      · rw [if_neg (show ¬ ((S.reads.getD i 0 &&& ~~~sound).toNat : Int) = 0 from hs), k5]
        obtain ⟨now', a', e, f1, f2, f3⟩ := ih (i + 1) g now a (by omega) (by omega) h3 h4
        refine ⟨now', a', e, f1, f2, fun c hc => ?_⟩
        obtain ⟨p1, p2⟩ := f3 c hc
        refine ⟨fun hh => p1 ⟨?_, hh.2.1, hh.2.2⟩, fun hh => p2 (fun q => hh ⟨by omega, q.2.1, q.2.2⟩)⟩
        by_cases hci : c = i
        · subst hci; exact absurd hh.2.2 hs
        · omega
    · rw [if_neg hneg, k5]
      obtain ⟨now', a', e, f1, f2, f3⟩ := ih (i + 1) g now a (by omega) (by omega) h3 h4
      refine ⟨now', a', e, f1, f2, fun c hc => ?_⟩
      obtain ⟨p1, p2⟩ := f3 c hc
      refine ⟨fun hh => p1 ⟨?_, hh.2.1, hh.2.2⟩, fun hh => p2 (fun q => hh ⟨by omega, q.2.1, q.2.2⟩)⟩
      by_cases hci : c = i
      · subst hci; exact absurd hh.2.1 hneg
      · omega
structure RI (S : GMS) (sound : BitVec 32) (k : Nat) (a : List Int) : Prop where
  len : a.length = 24
  inS : In24 sound
  snd : ∀ c, c < 24 → (sound.getLsbD c = true ↔ 0 ≤ lv a c)
  bd : ∀ c, c < 24 → -1 ≤ lv a c ∧ lv a c < k
  A : ∀ c, c < 24 → 0 ≤ lv a c → (∀ d, d < 24 → rdb S.reads c d = true → 0 ≤ lv a d ∧ lv a d < lv a c) ∧ (lv a c = 0 ∨ ∃ d, d < 24 ∧ rdb S.reads c d = true ∧ lv a c = lv a d + 1)
  U : ∀ c, c < 24 → lv a c = -1 → 1 ≤ k → ∃ d, d < 24 ∧ rdb S.reads c d = true ∧ (lv a d = -1 ∨ lv a d = (k : Int) - 1)
  stab : (∀ c, c < 24 → lv a c = -1 → ∃ d, d < 24 ∧ rdb S.reads c d = true ∧ lv a d = -1) ∨ k ≤ cnt sound
theorem RI.step {S : GMS} (hS : All24 S.reads) {sound : BitVec 32} {k : Nat} {a : List Int} (I : RI S sound k a) {now' : BitVec 32} {a' : List Int} (f1 : a'.length = 24) (f2 : In24 now')
    (f3 : ∀ c, c < 24 → (0 ≤ c ∧ lv a c < 0 ∧ Sub S sound c → lv a' c = k ∧ now'.getLsbD c = true) ∧ (¬ (0 ≤ c ∧ lv a c < 0 ∧ Sub S sound c) → lv a' c = lv a c ∧ now'.getLsbD c = sound.getLsbD c)) : RI S now' (k + 1) a' := by
  have hcase : ∀ c, c < 24 → (lv a c = -1 ∧ Sub S sound c ∧ lv a' c = k ∧ now'.getLsbD c = true) ∨ (¬ (lv a c = -1 ∧ Sub S sound c) ∧ lv a' c = lv a c ∧ now'.getLsbD c = sound.getLsbD c) := by
    intro c hc
    have hb := I.bd c hc
    by_cases h : lv a c < 0 ∧ Sub S sound c
    · exact Or.inl ⟨by omega, h.2, (f3 c hc).1 ⟨Nat.zero_le _, h⟩⟩
    · exact Or.inr ⟨fun q => h ⟨by omega, q.2⟩, (f3 c hc).2 (fun q => h q.2)⟩
  have hkeep : ∀ d, d < 24 → 0 ≤ lv a d → lv a' d = lv a d := by
    intro d hd h0
    rcases hcase d hd with h | h
    · omega
    · exact h.2.1
  have hnot : ∀ c, c < 24 → ¬ Sub S sound c → ∃ d, d < 24 ∧ rdb S.reads c d = true ∧ lv a d = -1 := by
    intro c hc hs
    apply Classical.byContradiction
    intro hn
    apply hs
    rw [sub_iff hS]
    intro d hd hr
    rw [I.snd d hd]
    have := I.bd d hd
    by_cases q : lv a d = -1
    · exact absurd ⟨d, hd, hr, q⟩ hn
    · omega
  refine ⟨f1, f2, ?_, ?_, ?_, ?_, ?_⟩
  · intro c hc
    have hb := I.bd c hc
    rcases hcase c hc with h | h
    · rw [h.2.2.1, h.2.2.2]; simp
    · rw [h.2.1, h.2.2]; exact I.snd c hc
  · intro c hc
    have hb := I.bd c hc
    rcases hcase c hc with h | h
    · rw [h.2.2.1]; omega
    · rw [h.2.1]; omega
  · intro c hc h0
    rcases hcase c hc with ⟨h1, h2, h3, h4⟩ | h
    · have hsub := (sub_iff hS).1 h2
      refine ⟨fun d hd hr => ?_, ?_⟩
      · have h5 := (I.snd d hd).1 (hsub d hd hr)
        rw [hkeep d hd h5, h3]
        have := I.bd d hd
        omega
      · by_cases hk : k = 0
        · exact Or.inl (by rw [h3, hk]; rfl)
        · obtain ⟨d, q1, q2, q3⟩ := I.U c hc h1 (by omega)
          have h5 := (I.snd d q1).1 (hsub d q1 q2)
          refine Or.inr ⟨d, q1, q2, ?_⟩
          rw [hkeep d q1 h5, h3]
          omega
    · rw [h.2.1] at h0 ⊢
      obtain ⟨p1, p2⟩ := I.A c hc h0
      refine ⟨fun d hd hr => ?_, ?_⟩
      · have := p1 d hd hr
        rw [hkeep d hd this.1]; exact this
      · rcases p2 with p2 | ⟨d, q1, q2, q3⟩
        · exact Or.inl p2
        · exact Or.inr ⟨d, q1, q2, by rw [hkeep d q1 (p1 d q1 q2).1]; exact q3⟩
  · intro c hc hm _
    rcases hcase c hc with ⟨h1, h2, h3, h4⟩ | h
    · omega
    · rw [h.2.1] at hm
      have hs : ¬ Sub S sound c := fun q => h.1 ⟨hm, q⟩
      obtain ⟨d, q1, q2, q3⟩ := hnot c hc hs
      refine ⟨d, q1, q2, ?_⟩
      rcases hcase d q1 with h' | h'
      · right; rw [h'.2.2.1]; omega
      · left; rw [h'.2.1]; exact q3
  · rcases I.stab with hst | hct
    · left
      have hno : ∀ c, c < 24 → lv a' c = lv a c := by
        intro c hc
        rcases hcase c hc with ⟨h1, h2, h3, h4⟩ | h
        · obtain ⟨d, q1, q2, q3⟩ := hst c hc h1
          have := (I.snd d q1).1 ((sub_iff hS).1 h2 d q1 q2)
          omega
        · exact h.2.1
      intro c hc hm
      rw [hno c hc] at hm
      obtain ⟨d, q1, q2, q3⟩ := hst c hc hm
      exact ⟨d, q1, q2, by rw [hno d q1]; exact q3⟩
    · by_cases hex : ∃ c, c < 24 ∧ lv a c = -1 ∧ Sub S sound c
      · right
        obtain ⟨c, hc, h1, h2⟩ := hex
        have : cnt sound < cnt now' := by
          refine cnt_lt (d := c) ?_ hc ?_ ?_
          · intro j hj hs
            rcases hcase j hj with h | h
            · exact h.2.2.2
            · rw [h.2.2]; exact hs
          · rcases hcase c hc with h | h
            · exact h.2.2.2
            · exact absurd ⟨h1, h2⟩ h.1
          · cases hx : sound.getLsbD c with
            | false => rfl
            | true => have := (I.snd c hc).1 hx; omega
        omega
      · left
        have hno : ∀ c, c < 24 → lv a' c = lv a c := by
          intro c hc
          rcases hcase c hc with ⟨h1, h2, h3, h4⟩ | h
          · exact absurd ⟨c, hc, h1, h2⟩ hex
          · exact h.2.1
        intro c hc hm
        rw [hno c hc] at hm
        obtain ⟨d, q1, q2, q3⟩ := hnot c hc (fun q => hex ⟨c, hc, hm, q⟩)
        exact ⟨d, q1, q2, by rw [hno d q1]; exact q3⟩
theorem l161_7_ok {n : Nat} (hn : 1000 ≤ n) {S : GMS} (hS : All24 S.reads) : ∀ (m k g : Nat) (sound : BitVec 32) (a : List Int), k + m = 24 → m < g → RI S sound k a → ∃ sound' a', l161_7 n S g sound (k : Int) a = some a' ∧ RI S sound' 24 a' := by
  intro m
  induction m with
  | zero =>
    intro k g sound a h1 h2 I
    obtain ⟨g, rfl⟩ : ∃ g', g = g' + 1 := ⟨g - 1, by omega⟩
    have : k = 24 := by omega
    subst this
    refine ⟨sound, a, ?_, I⟩
    show l161_7_st n S (l161_7 n S g) sound (24 : Int) a = _
    unfold l161_7_st
    rw [if_neg (by decide)]
  | succ m ih =>
    intro k g sound a h1 h2 I
    obtain ⟨g, rfl⟩ : ∃ g', g = g' + 1 := ⟨g - 1, by omega⟩
    show ∃ sound' a', l161_7_st n S (l161_7 n S g) sound (k : Int) a = _ ∧ _
    unfold l161_7_st
    rw [if_pos (by omega)]
    obtain ⟨now', a', e, f1, f2, f3⟩ := l161_6_ok (n := n) hS sound k (by omega) (l161_7 n S g) 24 0 n sound a (by omega) (by omega) I.inS I.len
    have e : l161_6 n S sound (k : Int) (l161_7 n S g) n sound (0 : Int) a = l161_7 n S g now' ((k : Int) + 1) a' := e
    rw [e]
    exact ih (k + 1) g now' a' (by omega) (by omega) (I.step hS f1 f2 f3)
theorem l161_8_ok {n : Nat} (hn : 1000 ≤ n) {S : GMS} (hS : All24 S.reads) : ∀ (m i g : Nat) (a : List Int), i + m = 24 → m < g → a.length = 24 → (∀ c, c < i → lv a c = -1) → ∃ a', l161_8 n S g (i : Int) a = l161_7 n S n 0 0 a' ∧ a'.length = 24 ∧ ∀ c, c < 24 → lv a' c = -1 := by
  intro m
  induction m with
  | zero =>
    intro i g a h1 h2 h3 h4
    obtain ⟨g, rfl⟩ : ∃ g', g = g' + 1 := ⟨g - 1, by omega⟩
    refine ⟨a, ?_, h3, fun c hc => h4 c (by omega)⟩
    show l161_8_st n S (l161_8 n S g) (i : Int) a = _
    unfold l161_8_st
    rw [if_neg (by omega)]
  | succ m ih =>
    intro i g a h1 h2 h3 h4
    obtain ⟨g, rfl⟩ : ∃ g', g = g' + 1 := ⟨g - 1, by omega⟩
    show ∃ a', l161_8_st n S (l161_8 n S g) (i : Int) a = _ ∧ _
    unfold l161_8_st
    rw [if_pos (by omega), bindT (getNd2 0 h3 (by omega)), ckF (by constructor <;> omega), Int.toNat_natCast]
    have hset : ∀ c, lv (a.set i (-1)) c = if c = i then -1 else lv a c := fun c => getD_set _ _ (by rw [h3]; omega) c
    exact ih (i + 1) g (a.set i (-1)) (by omega) (by omega) (by rw [List.length_set]; exact h3) (fun c hc => by
      rw [hset]
      by_cases hci : c = i
      · rw [if_pos hci]
      · rw [if_neg hci]; exact h4 c (by omega))
theorem s161_ok {n : Nat} (hn : 1000 ≤ n) {S : GMS} (hS : All24 S.reads) : ∃ l, s161 n S = some l ∧ l.length = 24 ∧ LevR (rdb S.reads) (lv l) ∧ ∀ c, c < 24 → lv l c ≤ 23 := by
  obtain ⟨a, e1, h1, h2⟩ := l161_8_ok hn hS 24 0 n (List.replicate 24 0) (by omega) (by omega) (by simp) (fun c hc => by omega)
  have I0 : RI S 0 0 a := by
    refine ⟨h1, in24_0, fun c hc => ?_, fun c hc => ?_, fun c hc h => ?_, fun c hc _ h => by omega, Or.inr (Nat.zero_le _)⟩
    · rw [h2 c hc]; simp
    · rw [h2 c hc]; omega
    · rw [h2 c hc] at h; omega
  obtain ⟨sound, l, e2, I⟩ := l161_7_ok hn hS 24 0 n 0 a (by omega) (by omega) I0
  refine ⟨l, ?_, I.len, ⟨fun c hc => (I.bd c hc).1, I.A, ?_⟩, fun c hc => by have := (I.bd c hc).2; omega⟩
  · unfold s161
    exact e1.trans e2
  · rcases I.stab with h | h
    · exact h
    · intro c hc hm
      exfalso
      have hns : sound.getLsbD c = false := by
        cases hx : sound.getLsbD c with
        | false => rfl
        | true => have := (I.snd c hc).1 hx; omega
      have := cnt_lt (s := sound) (t := (16777215 : BitVec 32)) (fun j hj _ => by rw [mall j (by omega)]; simpa using hj) hc (by rw [mall c (by omega)]; simpa using hc) hns
      have := cnt_le (16777215 : BitVec 32)
      omega
/-- Levels are one. -/
theorem lev_one {R : Nat → Nat → Bool} {L M : Nat → Int} (hL : LevR R L) (hM : LevR R M) : ∀ c, c < 24 → L c = M c := by
  have half : ∀ {L M : Nat → Int}, LevR R L → LevR R M → ∀ (k : Nat) (c : Nat), c < 24 → L c = k → M c = k := by
    intro L M hL hM k
    induction k using Nat.strongRecOn with
    | ind k ih =>
      intro c hc hk
      obtain ⟨p1, p2⟩ := hL.a c hc (by omega)
      have hd : ∀ d, d < 24 → R c d = true → M d = L d := by
        intro d hd hr
        obtain ⟨q1, q2⟩ := p1 d hd hr
        have := ih (L d).toNat (by omega) d hd (by omega)
        omega
      have hpos : 0 ≤ M c := by
        have hlo := hM.lo c hc
        by_cases hm : M c = -1
        · obtain ⟨d, q1, q2, q3⟩ := hM.b c hc hm
          have := hd d q1 q2
          have := p1 d q1 q2
          omega
        · omega
      obtain ⟨r1, r2⟩ := hM.a c hc hpos
      have ha : M c ≤ L c := by
        rcases r2 with r2 | ⟨d, q1, q2, q3⟩
        · omega
        · have := hd d q1 q2
          have := p1 d q1 q2
          omega
      have hb : L c ≤ M c := by
        rcases p2 with p2 | ⟨d, q1, q2, q3⟩
        · omega
        · have := hd d q1 q2
          have := r1 d q1 q2
          omega
      omega
  intro c hc
  have h1 := hL.lo c hc
  have h2 := hM.lo c hc
  by_cases hp : 0 ≤ L c
  · have := half hL hM (L c).toNat c hc (by omega)
    omega
  · by_cases hq : 0 ≤ M c
    · have := half hM hL (M c).toNat c hc (by omega)
      omega
    · omega
/-- The levels of a table of reading. -/
theorem lev_ex {RD : List (BitVec 32)} (h : All24 RD) : ∃ l : List Int, l.length = 24 ∧ LevR (rdb RD) (lv l) ∧ ∀ c, c < 24 → lv l c ≤ 23 := by
  obtain ⟨l, _, h2⟩ := s161_ok (n := 1000) (Nat.le_refl _) (S := ⟨RD, 0, 0⟩) h
  exact ⟨l, h2⟩
end Go.Proofs.Qxb6500272aGreat
