/-
  Plain laws, the document: noting, forgetting, laying records.
-/
import Derived.Test.Qxb6500272aGreatB0
namespace Go.Proofs.Qxb6500272aGreat
open Go
set_option linter.unusedVariables false
set_option linter.unusedSimpArgs false
theorem s72_ok {n : Nat} (hn : 1000 ≤ n) {B : BS} {hist : Nat → Snap} {u r b : Nat} (h : RG B hist u r b) {now : Snap} (hnow : Raws now) (hw : B.was = hist u) (hraw : B.e.k.raw = now) :
    ∃ B' hist' u' b', s72 n B = some B' ∧ B'.e = B.e ∧ RG B' hist' u' 0 b' ∧ hist' u' = now ∧ ((u < 6 ∧ u' = u + 1 ∧ ∀ k, k ≤ u → hist' k = hist k) ∨ (u = 6 ∧ u' = 6 ∧ ∀ k, k ≤ 5 → hist' k = hist (k + 1))) := by
  have hur := h.ur
  obtain ⟨P, T, e1, h1⟩ := note_redo hn r n B hist u b (by omega) h
  obtain ⟨g, hg⟩ : ∃ g, n - r = g + 1 := ⟨n - r - 1, by omega⟩
  have htr : ∀ k, k ≤ u → trunc hist u k = hist k := fun k hk => by unfold trunc; rw [Nat.min_eq_left hk]
  unfold s72
  rw [e1, hg]
  show ∃ B' hist' u' b', l72_10_st n (l72_10 n g) { B with pool := P, turned := T, redos := 0 } = some B' ∧ _
  unfold l72_10_st
  rw [if_neg (by show ¬ (0 : Int) < 0; decide)]
  have hun := h.un
  by_cases hu : u = 6
  · subst hu
    rw [if_pos (show B.undos = 6 by omega)]
    have hb6 := h.b6
    obtain ⟨P2, e2, a1, a2, a3⟩ := s91_ok hn (s := b) hb6 { B with pool := P, turned := T, redos := 0 } h1.pl h1.tl
    have e2' : s91 n { B with pool := P, turned := T, redos := 0 } ({ B with pool := P, turned := T, redos := 0 } : BS).base = some { B with pool := P2, turned := T.set b 0, redos := 0 } := by
      have hbase := h.base
      rw [← hbase] at e2
      exact e2
    have e3 : s43 ({ B with pool := P2, turned := T.set b 0, redos := 0 } : BS) (1 : Int) = some (((b + 1) % 6 : Nat) : Int) := s43_ok (k := 1) h.base hb6 (by omega)
    rw [bindT e2', bindT e3, ckF (by show i64ok (B.undos - 1); constructor <;> omega)]
    have hRG : RG { B with pool := P2, turned := T.set b 0, redos := 0, base := (((b + 1) % 6 : Nat) : Int), undos := B.undos - 1 } (fun k => trunc hist 6 (k + 1)) 5 0 ((b + 1) % 6) := by
      refine ⟨a1, by show (T.set b 0).length = 6; rw [List.length_set]; exact h1.tl, h1.wl, h1.ol, rfl, by omega, by show B.undos - 1 = _; omega, rfl, by omega, fun k => h1.raws _, fun k hk => ?_, fun k hk => ?_⟩
      · by_cases hk5 : k = 5
        · subst hk5
          have e : ((b + 1) % 6 + 5) % 6 = b := by omega
          rw [e]
          have h0 := h1.recs 0 (by omega)
          rw [show (b + 0) % 6 = b by omega] at h0
          have h7 : trunc hist 6 (5 + 1 + 1) = trunc hist 6 (5 + 1) := by unfold trunc; rfl
          show RecOk P2 (T.set b 0) b (trunc hist 6 (5 + 1)) (trunc hist 6 (5 + 1 + 1))
          rw [h7]
          exact a3 _ _ _ h0
        · have hr := h1.recs (k + 1) (by omega)
          have e : ((b + 1) % 6 + k) % 6 = (b + (k + 1)) % 6 := by omega
          rw [e]
          exact a2 _ _ _ (by omega) hr
      · show trunc hist 6 (k + 1) = trunc hist 6 (5 + 0 + 1)
        unfold trunc
        rw [Nat.min_eq_right (by omega), Nat.min_eq_right (by omega)]
    obtain ⟨P3, T3, e4, h4⟩ := note_new hn hRG (by omega) hnow (by show B.was = trunc hist 6 (5 + 1); rw [htr 6 (by omega)]; exact hw) hraw
    refine ⟨_, _, 6, (b + 1) % 6, e4, rfl, h4, by unfold hnew; rw [if_neg (by omega)], Or.inr ⟨rfl, rfl, fun k hk => ?_⟩⟩
    unfold hnew
    rw [if_pos hk]
    exact htr (k + 1) (by omega)
  · rw [if_neg (show ¬ B.undos = 6 by omega)]
    obtain ⟨P3, T3, e4, h4⟩ := note_new hn h1 (by omega) hnow (by show B.was = trunc hist u u; rw [htr u (by omega)]; exact hw) hraw
    refine ⟨_, _, u + 1, b, e4, rfl, h4, by unfold hnew; rw [if_neg (by omega)], Or.inl ⟨by omega, rfl, fun k hk => ?_⟩⟩
    unfold hnew
    rw [if_pos hk, htr k hk]
/-- Forgetting. -/
theorem l84_ok {n : Nat} (hn : 1000 ≤ n) {u r b : Nat} (hur : u + r ≤ 6) (hb6 : b < 6) {hist : Nat → Snap} : ∀ (m i g : Nat) (B : BS), i + m = u + r → m < g → B.pool.length = 288 → B.turned.length = 6 → B.base = (b : Int) → B.undos = (u : Int) → B.redos = (r : Int) →
    (∀ k, k < 6 → (k < i ∨ u + r ≤ k) → ∀ x, RecOk B.pool B.turned ((b + k) % 6) x x) → (∀ k, i ≤ k → k < u + r → ∃ x y, RecOk B.pool B.turned ((b + k) % 6) x y) →
    ∃ P T, l84_0 n g (i : Int) B = some { B with pool := P, turned := T, base := 0, undos := 0, redos := 0 } ∧ P.length = 288 ∧ T.length = 6 ∧ ∀ s, s < 6 → ∀ x, RecOk P T s x x := by
  intro m
  induction m with
  | zero =>
    intro i g B h1 h2 h3 h4 h5 h6 h7 h8 h9
    obtain ⟨g, rfl⟩ : ∃ g', g = g' + 1 := ⟨g - 1, by omega⟩
    refine ⟨B.pool, B.turned, ?_, h3, h4, fun s hs x => ?_⟩
    · show l84_0_st n (l84_0 n g) (i : Int) B = _
      unfold l84_0_st
      rw [ckF (by constructor <;> omega), if_neg (by omega)]
    · have := h8 ((s + 6 - b) % 6) (by omega) (by omega) x
      rw [show (b + (s + 6 - b) % 6) % 6 = s by omega] at this
      exact this
  | succ m ih =>
    intro i g B h1 h2 h3 h4 h5 h6 h7 h8 h9
    obtain ⟨g, rfl⟩ : ∃ g', g = g' + 1 := ⟨g - 1, by omega⟩
    obtain ⟨P, e1, a1, a2, a3⟩ := s91_ok hn (s := (b + i) % 6) (by omega) B h3 h4
    show ∃ P T, l84_0_st n (l84_0 n g) (i : Int) B = _ ∧ _
    unfold l84_0_st
    rw [ckF (by constructor <;> omega), if_pos (by omega), bindT (s43_ok h5 hb6 (by omega)), bindT e1, ckF (by constructor <;> omega)]
    obtain ⟨x0, y0, hr0⟩ := h9 i (Nat.le_refl _) (by omega)
    obtain ⟨P', T', e2, b1, b2, b3⟩ := ih (i + 1) g { B with pool := P, turned := B.turned.set ((b + i) % 6) 0 } (by omega) (by omega) a1 (by show (B.turned.set _ _).length = 6; rw [List.length_set]; exact h4) h5 h6 h7 (by
      intro k hk hc x
      by_cases hki : k = i
      · subst hki; exact a3 _ _ _ hr0
      · exact a2 _ _ _ (fun e => hki (mod6 hk (by omega) e)) (h8 k hk (by omega) x)) (by
      intro k hk1 hk2
      obtain ⟨x, y, hr⟩ := h9 k (by omega) hk2
      exact ⟨x, y, a2 _ _ _ (fun e => by have := mod6 (by omega) (by omega) e; omega) hr⟩)
    exact ⟨P', T', e2, b1, b2, b3⟩
theorem s84_ok {n : Nat} (hn : 1000 ≤ n) {B : BS} {hist : Nat → Snap} {u r b : Nat} (h : RG B hist u r b) (now : Snap) (hnow : Raws now) : ∃ P T, s84 n B = some { B with pool := P, turned := T, base := 0, undos := 0, redos := 0 } ∧ RG { B with pool := P, turned := T, base := 0, undos := 0, redos := 0 } (fun _ => now) 0 0 0 := by
  have hur := h.ur
  obtain ⟨P, T, e, b1, b2, b3⟩ := l84_ok hn h.ur h.b6 (hist := hist) (u + r) 0 n B (by omega) (by omega) h.pl h.tl h.base h.un h.re (by
    intro k hk hc x
    have hr := h.recs k hk
    rw [h.tail k (by omega), h.tail (k + 1) (by omega)] at hr
    exact hr.dead x) (fun k _ hk => ⟨_, _, h.recs k (by omega)⟩)
  refine ⟨P, T, e, b1, b2, h.wl, h.ol, rfl, by omega, rfl, rfl, by omega, fun _ => hnow, fun k hk => ?_, fun _ _ => rfl⟩
  exact b3 _ (by omega) now
/-- The texts ahead of a command. -/
theorem l70_ok {n : Nat} {rs : Snap} (hr : Raws rs) : ∀ (m i g : Nat) (B : BS), i + m = 24 → m < g → B.e.k.raw = rs → B.was.length = 24 → (∀ j, j < i → rw_ B.was j = rw_ rs j) → l70_0 n g (i : Int) B = some { B with was := rs } := by
  intro m
  induction m with
  | zero =>
    intro i g B h1 h2 h3 h4 h5
    obtain ⟨g, rfl⟩ : ∃ g', g = g' + 1 := ⟨g - 1, by omega⟩
    show l70_0_st n (l70_0 n g) (i : Int) B = _
    unfold l70_0_st
    rw [if_neg (by omega)]
    have : B.was = rs := snap_ext h4 hr.1 (fun c hc => h5 c (by omega))
    rw [← this]
  | succ m ih =>
    intro i g B h1 h2 h3 h4 h5
    obtain ⟨g, rfl⟩ : ∃ g', g = g' + 1 := ⟨g - 1, by omega⟩
    have hi : i < 24 := by omega
    have hraw : s64 B.e (i : Int) = some (rw_ rs i) := by
      unfold s64
      have := s86_ok (K := B.e.k) (by rw [h3]; exact hr) hi
      rw [h3] at this
      exact bindR this
    show l70_0_st n (l70_0 n g) (i : Int) B = _
    unfold l70_0_st
    rw [if_pos (by omega), bindT hraw, bindT (getNd2 [] h4 hi), ckF (by constructor <;> omega), Int.toNat_natCast]
    exact ih (i + 1) g { B with was := B.was.set i (rw_ rs i) } (by omega) (by omega) h3 (by show (B.was.set _ _).length = 24; rw [List.length_set]; exact h4) (by
      intro j hj
      show rw_ (B.was.set i (rw_ rs i)) j = rw_ rs j
      have : rw_ (B.was.set i (rw_ rs i)) j = if j = i then rw_ rs i else rw_ B.was j := getD_set _ _ (by rw [h4]; exact hi) j
      rw [this]
      by_cases hji : j = i
      · rw [if_pos hji, hji]
      · rw [if_neg hji]; exact h5 j (by omega))
theorem s70_ok {n : Nat} (hn : 1000 ≤ n) {B : BS} (hr : Raws B.e.k.raw) (hw : B.was.length = 24) : s70 n B = some { B with was := B.e.k.raw } :=
  l70_ok hr 24 0 n B (by omega) (by omega) rfl hw (fun j hj => by omega)
theorem RG.was {B : BS} {hist : Nat → Snap} {u r b : Nat} (h : RG B hist u r b) {w : Snap} (hw : w.length = 24) : RG { B with was := w } hist u r b :=
  ⟨h.pl, h.tl, hw, h.ol, h.base, h.b6, h.un, h.re, h.ur, h.raws, h.recs, h.tail⟩
theorem RG.e {B : BS} {hist : Nat → Snap} {u r b : Nat} (h : RG B hist u r b) (e : ES) : RG { B with e := e } hist u r b :=
  ⟨h.pl, h.tl, h.wl, h.ol, h.base, h.b6, h.un, h.re, h.ur, h.raws, h.recs, h.tail⟩
/-- One text of a snapshot is laid. -/
theorem setR_ok {rs : Snap} {c : Nat} (hc : c < 24) {t : List UInt8} (ht : t.length ≤ 40) : setE (c : Int) t = 0 ∧ setR rs (c : Int) t = rs.set c t := by
  have h0 : setE (c : Int) t = 0 := by unfold setE; rw [if_neg (by omega), if_neg (by omega), if_neg (by omega)]
  exact ⟨h0, by unfold setR; rw [if_pos h0, Int.toNat_natCast]⟩
/-- A record is laid. -/
theorem l80_ok {n : Nat} (hn : 1000 ≤ n) {s : Nat} (hs : s < 6) {z : Nat} (hz : z < 2) {P : List (List UInt8)} (hP : P.length = 288) {x : BitVec 32} {src tgt : Snap} (hsrc : Raws src) (htgt : Raws tgt) (hon : ∀ c, c < 24 → x.getLsbD c = true → pz P s c z = rw_ tgt c) (hoff : ∀ c, c < 24 → x.getLsbD c = false → rw_ src c = rw_ tgt c) :
    ∀ (m i g : Nat) (B : BS), i + m = 24 → m < g → B.pool = P → ER B.e → (∀ j, j < 24 → rw_ B.e.k.raw j = if j < i then rw_ tgt j else rw_ src j) → ∃ e, l80_3 n (s : Int) (z : Int) x g (i : Int) B = some { B with e := e } ∧ ER e ∧ e.k.raw = tgt := by
  intro m
  induction m with
  | zero =>
    intro i g B h1 h2 h3 h4 h5
    obtain ⟨g, rfl⟩ : ∃ g', g = g' + 1 := ⟨g - 1, by omega⟩
    refine ⟨B.e, ?_, h4, snap_ext h4.e.k.raws.1 htgt.1 (fun c hc => by rw [h5 c hc, if_pos (by omega)])⟩
    show l80_3_st n (s : Int) (z : Int) x (l80_3 n (s : Int) (z : Int) x g) (i : Int) B = _
    unfold l80_3_st
    rw [if_neg (by omega)]
  | succ m ih =>
    intro i g B h1 h2 h3 h4 h5
    obtain ⟨g, rfl⟩ : ∃ g', g = g' + 1 := ⟨g - 1, by omega⟩
    have hi : i < 24 := by omega
    have k2 : ∀ B, k80_2 (i : Int) (l80_3 n (s : Int) (z : Int) x g) B = l80_3 n (s : Int) (z : Int) x g ((i + 1 : Nat) : Int) B := by
      intro B
      unfold k80_2
      rw [ckF (by constructor <;> omega)]; rfl
    show ∃ e, l80_3_st n (s : Int) (z : Int) x (l80_3 n (s : Int) (z : Int) x g) (i : Int) B = _ ∧ _
    unfold l80_3_st
    rw [if_pos (by omega), ckF (by omega), ckF (by omega), Int.toNat_natCast]
    by_cases hb : x.getLsbD i = true
    · have hp : getN B.pool 288 ((((s * 24 + i) * 2 : Nat) : Int) + (z : Int)) = some (rw_ tgt i) := by
        rw [h3, show (((s * 24 + i) * 2 : Nat) : Int) + (z : Int) = (((s * 24 + i) * 2 + z : Nat) : Int) by omega]
        have := getNd2 (l := P) [] hP (d := (s * 24 + i) * 2 + z) (by omega)
        rw [this]
        exact congrArg some (hon i hi hb)
      obtain ⟨e', e1, hE, hR⟩ := s71_ok hn h4 (i : Int) (rw_ tgt i)
      obtain ⟨g0, g1⟩ := setR_ok (rs := B.e.k.raw) hi (htgt.at i)
      rw [if_pos (bit_shr.2 hb), bindT (s69_ok (by omega) hi), ckF (by constructor <;> omega), bindT hp, bindT e1, k2]
      obtain ⟨e2, e3, h6, h7⟩ := ih (i + 1) g { B with e := e' } (by omega) (by omega) h3 hE (by
        intro j hj
        show rw_ e'.k.raw j = _
        rw [hR, g1, rw_set h4.e.k.raws hi]
        by_cases hji : j = i
        · rw [if_pos hji, if_pos (by omega), hji]
        · rw [if_neg hji, h5 j hj]
          by_cases hlt : j < i
          · rw [if_pos hlt, if_pos (by omega)]
          · rw [if_neg hlt, if_neg (by omega)])
      exact ⟨e2, e3, h6, h7⟩
    · rw [if_neg (fun q => hb (bit_shr.1 q)), k2]
      exact ih (i + 1) g B (by omega) (by omega) h3 h4 (by
        intro j hj
        rw [h5 j hj]
        by_cases hji : j = i
        · subst hji
          rw [if_neg (by omega), if_pos (by omega)]
          exact hoff j hj (by simpa using hb)
        · by_cases hlt : j < i
          · rw [if_pos hlt, if_pos (by omega)]
          · rw [if_neg hlt, if_neg (by omega)])
theorem s80_ok {n : Nat} (hn : 1000 ≤ n) {B : BS} {s : Nat} (hs : s < 6) {z : Nat} (hz : z < 2) (hP : B.pool.length = 288) (hT : B.turned.length = 6) {a b : Snap} (ha : Raws a) (hb : Raws b) (hr : RecOk B.pool B.turned s a b) (he : ER B.e) (hcur : B.e.k.raw = if z = 0 then b else a) :
    ∃ e, s80 n B (s : Int) (z : Int) = some { B with e := e } ∧ ER e ∧ e.k.raw = if z = 0 then a else b := by
  unfold s80
  rw [bindT (getNd2 0 hT hs)]
  have hz' : z = 0 ∨ z = 1 := by omega
  rcases hz' with rfl | rfl
  · exact l80_ok hn hs (by omega) hP (src := b) (tgt := a) hb ha (fun c hc h => (hr.on c hc h).2.1) (fun c hc h => (hr.off c hc h).1.symm) 24 0 n B (by omega) (by omega) rfl he (fun j hj => by rw [if_neg (by omega), hcur]; rfl)
  · exact l80_ok hn hs (by omega) hP (src := a) (tgt := b) ha hb (fun c hc h => (hr.on c hc h).2.2) (fun c hc h => (hr.off c hc h).1) 24 0 n B (by omega) (by omega) rfl he (fun j hj => by rw [if_neg (by omega), hcur]; rfl)
end Go.Proofs.Qxb6500272aGreat
