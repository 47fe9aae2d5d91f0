/-
  Plain laws, the sheet: what a sheet shows; the real Set.
-/
import Derived.Test.Qxb6500272aGreatG5
namespace Go.Proofs.Qxb6500272aGreat
open Go
set_option linter.unusedVariables false
set_option linter.unusedSimpArgs false
def Raws (rs : List (List UInt8)) : Prop := rs.length = 24 ∧ ∀ r ∈ rs, r.length ≤ 40
def rw_ (rs : List (List UInt8)) (c : Nat) : List UInt8 := rs.getD c []
theorem Raws.at {rs : List (List UInt8)} (h : Raws rs) (c : Nat) : (rw_ rs c).length ≤ 40 := by
  unfold rw_
  rw [List.getD_eq_getElem?_getD]
  cases hx : rs[c]? with
  | none => exact Nat.zero_le _
  | some x => exact h.2 x (List.mem_of_getElem? hx)
theorem Raws.set {rs : List (List UInt8)} (h : Raws rs) {c : Nat} {r : List UInt8} (hr : r.length ≤ 40) : Raws (rs.set c r) := by
  refine ⟨by rw [List.length_set]; exact h.1, fun y hy => ?_⟩
  rcases List.mem_or_eq_of_mem_set hy with hy | hy
  · exact h.2 y hy
  · rw [hy]; exact hr
def RDof (rs : List (List UInt8)) : List (BitVec 32) := rs.map rdOf
theorem RDof_all {rs : List (List UInt8)} (h : Raws rs) : All24 (RDof rs) := by
  refine ⟨by unfold RDof; rw [List.length_map]; exact h.1, fun x hx => ?_⟩
  obtain ⟨r, h1, rfl⟩ := List.mem_map.1 hx
  exact (cellLaw (h.2 r h1)).in24
theorem RDof_at {rs : List (List UInt8)} (h : Raws rs) {c : Nat} (hc : c < 24) : (RDof rs).getD c 0 = rdOf (rw_ rs c) := by
  unfold RDof rw_
  have hl := h.1
  rw [List.getD_eq_getElem?_getD, List.getD_eq_getElem?_getD, List.getElem?_map, List.getElem?_eq_getElem (by omega)]
  rfl
theorem RDof_set (rs : List (List UInt8)) (c : Nat) (r : List UInt8) : RDof (rs.set c r) = (RDof rs).set c (rdOf r) := by
  unfold RDof; rw [List.map_set]
theorem rdb_at {rs : List (List UInt8)} (h : Raws rs) {c : Nat} (hc : c < 24) (d : Nat) : rdb (RDof rs) c d = (rdOf (rw_ rs c)).getLsbD d := by
  unfold rdb; rw [RDof_at h hc]
def vl (E : List ValT) (c : Nat) : ValT := E.getD c ⟨0, 0, []⟩
theorem vl_get {E : List ValT} (h : E.length = 24) {c : Nat} (hc : c < 24) : E[c]? = some (vl E c) := by
  unfold vl
  rw [List.getD_eq_getElem?_getD, List.getElem?_eq_getElem (by omega)]; rfl
theorem EnvOk.at {E : List ValT} (h : EnvOk E) {c : Nat} (hc : c < 24) : Okv (vl E c) := by
  have := vl_get h.len hc
  exact h.ok _ (List.mem_of_getElem? this)
theorem EnvOk.set {E : List ValT} (h : EnvOk E) {c : Nat} {x : ValT} (hx : Okv x) : EnvOk (E.set c x) := by
  refine ⟨by rw [List.length_set]; exact h.len, fun y hy => ?_⟩
  rcases List.mem_or_eq_of_mem_set hy with hy | hy
  · exact h.ok y hy
  · rw [hy]; exact hx
theorem vl_set {E : List ValT} (h : E.length = 24) {c : Nat} (hc : c < 24) (x : ValT) (j : Nat) : vl (E.set c x) j = if j = c then x else vl E j := getD_set _ _ (by omega) j
theorem cv_dep {r : List UInt8} (hr : r.length ≤ 40) {E E' : List ValT} (h : EnvOk E) (h' : EnvOk E') (hd : ∀ d, d < 24 → (rdOf r).getLsbD d = true → vl E d = vl E' d) : cvOf r E = cvOf r E' := by
  refine (cellLaw hr).dep E E' h h' fun c hc hb => ?_
  rw [vl_get h.len hc, vl_get h'.len hc, hd c hc hb]
abbrev ecyc : ValT := s131 6
theorem okv_ecyc : Okv ecyc := okv_err (by decide)
/-- What the cells show. -/
structure Right (rs : List (List UInt8)) (L : Nat → Int) (E : List ValT) : Prop where
  env : EnvOk E
  cyc : ∀ c, c < 24 → L c = -1 → vl E c = ecyc
  val : ∀ c, c < 24 → 0 ≤ L c → vl E c = cvOf (rw_ rs c) E
theorem right_one {rs : List (List UInt8)} (hr : Raws rs) {L : Nat → Int} (hL : LevR (rdb (RDof rs)) L) {E E' : List ValT} (h : Right rs L E) (h' : Right rs L E') : E = E' := by
  have key : ∀ (k c : Nat), c < 24 → L c = k → vl E c = vl E' c := by
    intro k
    induction k using Nat.strongRecOn with
    | ind k ih =>
      intro c hc hk
      rw [h.val c hc (by omega), h'.val c hc (by omega)]
      refine cv_dep (hr.at c) h.env h'.env fun d hd hb => ?_
      have := (hL.a c hc (by omega)).1 d hd (by rw [rdb_at hr hc]; exact hb)
      exact ih (L d).toNat (by omega) d hd (by omega)
  apply List.ext_getElem?
  intro c
  by_cases hc : c < 24
  · rw [vl_get h.env.len hc, vl_get h'.env.len hc]
    have := hL.lo c hc
    by_cases h0 : 0 ≤ L c
    · rw [key (L c).toNat c hc (by omega)]
    · rw [h.cyc c hc (by omega), h'.cyc c hc (by omega)]
  · have h1 := h.env.len
    have h2 := h'.env.len
    rw [List.getElem?_eq_none (by omega), List.getElem?_eq_none (by omega)]
theorem Right.congr {rs : List (List UInt8)} {L M : Nat → Int} {E : List ValT} (h : Right rs L E) (hm : ∀ c, c < 24 → L c = M c) : Right rs M E :=
  ⟨h.env, fun c hc hl => h.cyc c hc (by rw [hm c hc]; exact hl), fun c hc hl => h.val c hc (by rw [hm c hc]; exact hl)⟩
theorem eqVal (x y : ValT) : eqCells (encVal x) (encVal y) = true ↔ x = y := by
  obtain ⟨a1, a2, a3⟩ := x
  obtain ⟨b1, b2, b3⟩ := y
  simp [encVal, eqCells, I]
/-- The sheet between its calls. -/
structure KInv (K : KS) : Prop where
  ev : VIdle K.ev
  net : GInv K.net
  raws : Raws K.raw
  reads : K.net.reads = RDof K.raw
  right : Right K.raw (lv K.net.level) K.shown
/-! ### Blight -/
theorem l111_ok {n : Nat} (z : BitVec 32) : ∀ (m i g : Nat) (K : KS), i + m = 24 → m < g → K.shown.length = 24 → ∃ E, l111_3 n z g (i : Int) K = some { K with shown := E } ∧ E.length = 24 ∧ ∀ c, c < 24 → vl E c = if i ≤ c ∧ z.getLsbD c = true then ecyc else vl K.shown c := by
  intro m
  induction m with
  | zero =>
    intro i g K h1 h2 h3
    obtain ⟨g, rfl⟩ : ∃ g', g = g' + 1 := ⟨g - 1, by omega⟩
    refine ⟨K.shown, ?_, h3, fun c hc => by rw [if_neg (by omega)]⟩
    show l111_3_st n z (l111_3 n z g) (i : Int) K = _
    unfold l111_3_st
    rw [if_neg (by omega)]
  | succ m ih =>
    intro i g K h1 h2 h3
    obtain ⟨g, rfl⟩ : ∃ g', g = g' + 1 := ⟨g - 1, by omega⟩
    show ∃ E, l111_3_st n z (l111_3 n z g) (i : Int) K = _ ∧ _
    unfold l111_3_st
    rw [if_pos (by omega), ckF (by omega), ckF (by omega), Int.toNat_natCast]
    have k2 : ∀ K, k111_2 (i : Int) (l111_3 n z g) K = l111_3 n z g ((i + 1 : Nat) : Int) K := by
      intro K
      unfold k111_2
      rw [ckF (by constructor <;> omega)]; rfl
    by_cases hb : z.getLsbD i = true
    · rw [if_pos (bit_shr.2 hb), bindT (getNd2 (⟨0, 0, []⟩ : ValT) h3 (by omega)), k2]
      obtain ⟨E, e1, e2, e3⟩ := ih (i + 1) g { K with shown := K.shown.set i (s131 6) } (by omega) (by omega) (by show (K.shown.set _ _).length = 24; rw [List.length_set]; exact h3)
      refine ⟨E, e1, e2, fun c hc => ?_⟩
      rw [e3 c hc]
      show (if _ then ecyc else vl (K.shown.set i ecyc) c) = _
      rw [vl_set h3 (by omega)]
      by_cases hci : c = i
      · subst hci
        rw [if_neg (by omega), if_pos rfl, if_pos ⟨Nat.le_refl _, hb⟩]
      · rw [if_neg hci]
        by_cases hq : i ≤ c ∧ z.getLsbD c = true
        · rw [if_pos hq, if_pos ⟨by omega, hq.2⟩]
        · rw [if_neg hq, if_neg (fun q => hq ⟨by omega, q.2⟩)]
    · rw [if_neg (fun q => hb (bit_shr.1 q)), k2]
      obtain ⟨E, e1, e2, e3⟩ := ih (i + 1) g K (by omega) (by omega) h3
      refine ⟨E, e1, e2, fun c hc => ?_⟩
      rw [e3 c hc]
      by_cases hq : i ≤ c ∧ z.getLsbD c = true
      · have hci : c ≠ i := fun q => by subst q; exact hb hq.2
        rw [if_pos hq, if_pos ⟨by omega, hq.2⟩]
      · rw [if_neg hq, if_neg (fun q => hq ⟨by omega, q.2⟩)]
theorem s111_ok {n : Nat} (hn : 1000 ≤ n) (z : BitVec 32) (K : KS) (h : K.shown.length = 24) : ∃ E, s111 n K z = some { K with shown := E } ∧ E.length = 24 ∧ ∀ c, c < 24 → vl E c = if z.getLsbD c = true then ecyc else vl K.shown c := by
  obtain ⟨E, e1, e2, e3⟩ := l111_ok (n := n) z 24 0 n K (by omega) (by omega) h
  refine ⟨E, e1, e2, fun c hc => ?_⟩
  rw [e3 c hc]
  by_cases hb : z.getLsbD c = true
  · rw [if_pos hb, if_pos ⟨Nat.zero_le _, hb⟩]
  · rw [if_neg hb, if_neg (fun q => hb q.2)]
/-! ### The sweep -/
structure SW (rs : List (List UInt8)) (l : List Int) (E1 : List ValT) (i : Nat) (t : BitVec 32) (E : List ValT) : Prop where
  env : EnvOk E
  fin : ∀ (j x : Nat), j < i → l[j]? = some (x : Int) → vl E x = cvOf (rw_ rs x) E
  same : ∀ d, d < 24 → t.getLsbD d = false → vl E d = vl E1 d
  turned : ∀ d, d < 24 → t.getLsbD d = true → ∃ j : Nat, j < i ∧ l[j]? = some (d : Int)
section
variable {n : Nat} {K : KS} {L : Nat → Int} {l : List Int} {E1 : List ValT} {c : Nat} {z : BitVec 32}
/-- One cell is worked out. -/
theorem sw_eval (hn : 1000 ≤ n) (hr : Raws K.raw) (hL : LevR (rdb (RDof K.raw)) L) (hO : ∀ (i : Nat) (x : Int), l[i]? = some x → ∃ c : Nat, x = (c : Int) ∧ c < 24 ∧ 0 ≤ L c) (hs : ∀ (i j c d : Nat), i < j → l[i]? = some (c : Int) → l[j]? = some (d : Int) → L c ≤ L d)
    {i : Nat} {t : BitVec 32} {E : List ValT} {V : VS} (hV : VIdle V) (I : SW K.raw l E1 i t E) {x : Nat} (hx : l[i]? = some (x : Int)) (rec : BitVec 32 → Int → KS → Option KS) (hi : i < 1000) :
    ∃ t' E' V', k113_3 n t (i : Int) { K with ev := V, shown := E } rec (x : Int) = rec t' ((i + 1 : Nat) : Int) { K with ev := V', shown := E' } ∧ VIdle V' ∧ SW K.raw l E1 (i + 1) t' E' := by
  obtain ⟨x', hxx, hx24, hLx⟩ := hO i _ hx
  have : x' = x := by omega
  subst this
  have hlaw := cellLaw (hr.at x')
  obtain ⟨V', e1, hV'⟩ := hlaw.cell E I.env n hn V hV
  have hw := hlaw.okv E I.env
  generalize hW : cvOf (rw_ K.raw x') E = w at *
  unfold k113_3
  have hraw : getN K.raw 24 (x' : Int) = some (rw_ K.raw x') := getNd2 [] hr.1 hx24
  have hshow : getN E 24 (x' : Int) = some (vl E x') := getNd2 (⟨0, 0, []⟩ : ValT) I.env.len hx24
  show ∃ t' E' V', ((getN K.raw 24 (x' : Int)).bind fun x124 => (s133 n V x124 E 24).bind fun r126 => (getN E 24 (x' : Int)).bind fun x140 => _) = _ ∧ _
  rw [bindT hraw, bindT e1, bindT hshow]
  have k2 : ∀ t K, k113_2 (i : Int) rec t K = rec t ((i + 1 : Nat) : Int) K := by
    intro t K
    unfold k113_2
    rw [ckF (by constructor <;> omega)]; rfl
  by_cases hq : w = vl E x'
  · rw [if_pos ((eqVal _ _).2 hq), k2]
    refine ⟨t, E, V', rfl, hV', I.env, ?_, I.same, ?_⟩
    · intro j y hj hy
      by_cases hji : j = i
      · subst hji
        rw [hx] at hy
        injection hy with hy
        have : x' = y := by omega
        subst this
        rw [hW, hq]
      · exact I.fin j y (by omega) hy
    · intro d hd hb
      obtain ⟨j, h1, h2⟩ := I.turned d hd hb
      exact ⟨j, by omega, h2⟩
  · rw [if_neg (fun h => hq ((eqVal _ _).1 h)), k2, Int.toNat_natCast]
    have hE' : EnvOk (E.set x' w) := I.env.set hw
    -- what does not read x keeps its worth
    have keep : ∀ y, y < 24 → 0 ≤ L y → L y ≤ L x' → cvOf (rw_ K.raw y) (E.set x' w) = cvOf (rw_ K.raw y) E := by
      intro y hy h0 hle
      refine cv_dep (hr.at y) hE' I.env fun d hd hb => ?_
      rw [vl_set I.env.len hx24]
      by_cases hdx : d = x'
      · subst hdx
        have := (hL.a y hy h0).1 d hd (by rw [rdb_at hr hy]; exact hb)
        omega
      · rw [if_neg hdx]
    refine ⟨t ||| s92 (x' : Int), E.set x' w, V', rfl, hV', hE', ?_, ?_, ?_⟩
    · intro j y hj hy
      by_cases hyx : y = x'
      · subst hyx
        rw [vl_set I.env.len hx24, if_pos rfl, keep y hx24 hLx (Int.le_refl _), hW]
      · have hji : j ≠ i := fun q => by
          subst q
          rw [hx] at hy
          injection hy with hy
          exact hyx (by omega)
        obtain ⟨y', hyy, hy24, hLy⟩ := hO j _ hy
        have : y' = y := by omega
        subst this
        rw [vl_set I.env.len hx24, if_neg hyx, keep y' hy24 hLy (hs j i y' x' (by omega) hy hx)]
        exact I.fin j y' (by omega) hy
    · intro d hd hb
      rw [BitVec.getLsbD_or, s92_bit hx24, Bool.or_eq_false_iff] at hb
      have hdx : d ≠ x' := by simpa using hb.2
      rw [vl_set I.env.len hx24, if_neg hdx]
      exact I.same d hd hb.1
    · intro d hd hb
      rw [BitVec.getLsbD_or, s92_bit hx24, Bool.or_eq_true] at hb
      rcases hb with hb | hb
      · obtain ⟨j, h1, h2⟩ := I.turned d hd hb
        exact ⟨j, by omega, h2⟩
      · have : d = x' := by simpa using hb
        subst this
        exact ⟨i, by omega, hx⟩
theorem sw_loop (hn : 1000 ≤ n) (hr : Raws K.raw) (hnet : K.net.reads = RDof K.raw) (hL : LevR (rdb (RDof K.raw)) L) (hO : ∀ (i : Nat) (x : Int), l[i]? = some x → ∃ c : Nat, x = (c : Int) ∧ c < 24 ∧ 0 ≤ L c) (hs : ∀ (i j c d : Nat), i < j → l[i]? = some (c : Int) → l[j]? = some (d : Int) → L c ≤ L d) (hlen : l.length ≤ 900) (hE1 : EnvOk E1)
    (hold : ∀ x, x < 24 → x ≠ c → 0 ≤ L x → vl E1 x ≠ ecyc → vl E1 x = cvOf (rw_ K.raw x) E1 ∨ ∃ E0, EnvOk E0 ∧ vl E1 x = cvOf (rw_ K.raw x) E0 ∧ ∀ d, d < 24 → 0 ≤ L d → vl E1 d = vl E0 d) :
    ∀ (m i g : Nat) (t : BitVec 32) (E : List ValT) (V : VS), i + m = l.length → m < g → VIdle V → SW K.raw l E1 i t E →
    ∃ t' E' V', l113_4 n (c : Int) l g t (i : Int) { K with ev := V, shown := E } = some { K with ev := V', shown := E' } ∧ VIdle V' ∧ SW K.raw l E1 l.length t' E' := by
  intro m
  induction m with
  | zero =>
    intro i g t E V h1 h2 hV I
    obtain ⟨g, rfl⟩ : ∃ g', g = g' + 1 := ⟨g - 1, by omega⟩
    have : i = l.length := by omega
    subst this
    refine ⟨t, E, V, ?_, hV, I⟩
    show l113_4_st n (c : Int) l (l113_4 n (c : Int) l g) t (l.length : Int) _ = _
    unfold l113_4_st
    rw [if_neg (by omega)]
  | succ m ih =>
    intro i g t E V h1 h2 hV I
    obtain ⟨g, rfl⟩ : ∃ g', g = g' + 1 := ⟨g - 1, by omega⟩
    have hil : i < l.length := by omega
    obtain ⟨x, hxx, hx24, hLx⟩ := hO i _ (List.getElem?_eq_getElem hil)
    have hx : l[i]? = some (x : Int) := by rw [List.getElem?_eq_getElem hil, hxx]
    have hev : ∃ t' E' V', k113_3 n t (i : Int) { K with ev := V, shown := E } (l113_4 n (c : Int) l g) (x : Int) = some { K with ev := V', shown := E' } ∧ VIdle V' ∧ SW K.raw l E1 l.length t' E' := by
      obtain ⟨t1, E2, V1, e, hV1, I1⟩ := sw_eval hn hr hL hO hs hV I hx (l113_4 n (c : Int) l g) (by omega)
      rw [e]
      exact ih (i + 1) g t1 E2 V1 (by omega) (by omega) hV1 I1
    show ∃ t' E' V', l113_4_st n (c : Int) l (l113_4 n (c : Int) l g) t (i : Int) _ = _ ∧ _
    unfold l113_4_st
    rw [if_pos (by omega), ckF (by omega), bindT (getT (x := (x : Int)) (by omega) (by omega) (by rw [Int.toNat_natCast]; exact hx))]
    by_cases hxc : (x : Int) = (c : Int)
    · rw [if_pos hxc]; exact hev
    · rw [if_neg hxc]
      have h132 : s132 ({ K with ev := V, shown := E } : KS).net (x : Int) = some ((RDof K.raw).getD x 0) := by
        show s132 K.net (x : Int) = _
        unfold s132
        rw [if_neg (by omega), if_neg (by omega), hnet, bindT (getNd2 0 (RDof_all hr).1 hx24)]
      rw [bindT h132]
      by_cases ht : (((RDof K.raw).getD x 0 &&& t).toNat : Int) = 0
      · rw [if_pos ht]
        have hshow : getN ({ K with ev := V, shown := E } : KS).shown 24 (x : Int) = some (vl E x) := getNd2 (⟨0, 0, []⟩ : ValT) I.env.len hx24
        rw [bindT hshow]
        by_cases hq : vl E x = ecyc
        · rw [if_pos ((eqVal _ _).2 hq)]; exact hev
        · rw [if_neg (fun h => hq ((eqVal _ _).1 h))]
          unfold k113_2
          rw [ckF (by constructor <;> omega)]
          -- the skipped cell shows its worth
          have hfin : vl E x = cvOf (rw_ K.raw x) E := by
            cases htx : t.getLsbD x with
            | true =>
              obtain ⟨j, h1, h2⟩ := I.turned x hx24 htx
              exact I.fin j x h1 h2
            | false =>
              have hsx := I.same x hx24 htx
              have hne : vl E1 x ≠ ecyc := by rw [← hsx]; exact hq
              have hdt : ∀ d, d < 24 → (rdOf (rw_ K.raw x)).getLsbD d = true → vl E d = vl E1 d ∧ 0 ≤ L d := by
                intro d hd hb
                have hR : rdb (RDof K.raw) x d = true := by rw [rdb_at hr hx24]; exact hb
                refine ⟨I.same d hd ?_, ((hL.a x hx24 hLx).1 d hd hR).1⟩
                have := (bv_zero.1 ht) d (by omega)
                rw [BitVec.getLsbD_and, show ((RDof K.raw).getD x 0).getLsbD d = true from hR, Bool.true_and] at this
                exact this
              rw [hsx]
              rcases hold x hx24 (fun q => hxc (by omega)) hLx hne with h | ⟨E0, hE0, h, h'⟩
              · rw [h]
                exact cv_dep (hr.at x) hE1 I.env fun d hd hb => (hdt d hd hb).1.symm
              · rw [h]
                exact cv_dep (hr.at x) hE0 I.env fun d hd hb => by rw [(hdt d hd hb).1, h' d hd (hdt d hd hb).2]
          refine ih (i + 1) g t E V (by omega) (by omega) hV ⟨I.env, ?_, I.same, ?_⟩
          · intro j y hj hy
            by_cases hji : j = i
            · subst hji
              rw [hx] at hy
              injection hy with hy
              have : x = y := by omega
              subst this
              exact hfin
            · exact I.fin j y (by omega) hy
          · intro d hd hb
            obtain ⟨j, h1, h2⟩ := I.turned d hd hb
            exact ⟨j, by omega, h2⟩
      · rw [if_neg ht]; exact hev
end
/-- Outside what hangs on c, the levels stay. -/
theorem lev_out {R R' : Nat → Nat → Bool} {L L' : Nat → Int} (hL : LevR R L) (hL' : LevR R' L') {h : Nat → Bool} (hR : ∀ b d, b < 24 → d < 24 → h b = false → R b d = R' b d) (hc : ∀ b d, b < 24 → d < 24 → h b = false → R' b d = true → h d = false) : ∀ b, b < 24 → h b = false → L b = L' b := by
  have aux : ∀ {R : Nat → Nat → Bool} {L : Nat → Int}, LevR R L → (∀ b d, b < 24 → d < 24 → h b = false → R b d = R' b d) → LevR (fun b d => if h b = true then false else R' b d) (fun b => if h b = true then 0 else L b) := by
    intro R L hL hR
    refine ⟨fun b hb => ?_, fun b hb h0 => ?_, fun b hb hm => ?_⟩
    · show -1 ≤ (if h b = true then 0 else L b)
      split
      · omega
      · exact hL.lo b hb
    · have h0 : 0 ≤ (if h b = true then 0 else L b) := h0
      show (∀ d, d < 24 → (if h b = true then false else R' b d) = true → 0 ≤ (if h d = true then 0 else L d) ∧ (if h d = true then 0 else L d) < (if h b = true then 0 else L b)) ∧ ((if h b = true then 0 else L b) = 0 ∨ ∃ d, d < 24 ∧ (if h b = true then false else R' b d) = true ∧ (if h b = true then 0 else L b) = (if h d = true then 0 else L d) + 1)
      cases hh : h b with
      | true => simp
      | false =>
        rw [hh] at h0
        simp only [Bool.false_eq_true, if_false] at h0 ⊢
        obtain ⟨p1, p2⟩ := hL.a b hb h0
        refine ⟨fun d hd hr => ?_, ?_⟩
        · rw [hc b d hb hd hh hr]
          simp only [Bool.false_eq_true, if_false]
          exact p1 d hd (by rw [hR b d hb hd hh]; exact hr)
        · rcases p2 with p2 | ⟨d, q1, q2, q3⟩
          · exact Or.inl p2
          · rw [hR b d hb q1 hh] at q2
            refine Or.inr ⟨d, q1, q2, ?_⟩
            rw [hc b d hb q1 hh q2]
            simp only [Bool.false_eq_true, if_false]
            exact q3
    · have hm : (if h b = true then 0 else L b) = -1 := hm
      show ∃ d, d < 24 ∧ (if h b = true then false else R' b d) = true ∧ (if h d = true then 0 else L d) = -1
      cases hh : h b with
      | true => rw [hh] at hm; simp at hm
      | false =>
        rw [hh] at hm
        simp only [Bool.false_eq_true, if_false] at hm ⊢
        obtain ⟨d, q1, q2, q3⟩ := hL.b b hb hm
        rw [hR b d hb q1 hh] at q2
        refine ⟨d, q1, q2, ?_⟩
        rw [hc b d hb q1 hh q2]
        simp only [Bool.false_eq_true, if_false]
        exact q3
  intro b hb hh
  have := lev_one (aux hL hR) (aux hL' (fun _ _ _ _ _ => rfl)) b hb
  simp only [hh, Bool.false_eq_true, if_false] at this
  exact this
end Go.Proofs.Qxb6500272aGreat
