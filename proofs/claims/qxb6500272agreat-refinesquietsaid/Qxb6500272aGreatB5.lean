/-
  Plain laws, the document: Load on both sides; what Save gives is loaded.
-/
import Derived.Test.Qxb6500272aGreatB4
namespace Go.Proofs.Qxb6500272aGreat
open Go
set_option linter.unusedVariables false
set_option linter.unusedSimpArgs false
theorem two_len (z : Nat) : (two z).length = 2 := rfl
theorem pv_of {t : List UInt8} {i c : Nat} {rest : List UInt8} (hc : c < 100) (h : t.drop i = two c ++ rest) : pv t i = (c : Int) ∧ i + 1 < t.length ∧ t.drop (i + 2) = rest := by
  have hl : (t.drop i).length = 2 + rest.length := by rw [h, List.length_append, two_len]
  rw [List.length_drop] at hl
  have g : ∀ j, t[i + j]? = (two c ++ rest)[j]? := fun j => by rw [← h, List.getElem?_drop]
  have g0 := g 0
  have g1 := g 1
  have e0 : t.getD i 0 = UInt8.ofNat (48 + c / 10) := by
    rw [List.getD_eq_getElem?_getD, show i = i + 0 from rfl, g0]; rfl
  have e1 : t.getD (i + 1) 0 = UInt8.ofNat (48 + c % 10) := by
    rw [List.getD_eq_getElem?_getD, g1]; rfl
  have t0 : (t.getD i 0).toNat = 48 + c / 10 := by rw [e0, UInt8.toNat_ofNat']; omega
  have t1 : (t.getD (i + 1) 0).toNat = 48 + c % 10 := by rw [e1, UInt8.toNat_ofNat']; omega
  refine ⟨?_, by omega, ?_⟩
  · unfold pv
    rw [t0, t1, if_neg (by omega)]
    congr 1
    omega
  · rw [← List.drop_drop, h]; rfl
theorem flat_cons (p : Nat × List UInt8) (L : Pieces) : flat (p :: L) = two p.1 ++ (two p.2.length ++ (p.2 ++ flat L)) := by
  show (two p.1 ++ (two p.2.length ++ p.2)) ++ flat L = _
  simp only [List.append_assoc]
theorem flat_inj : ∀ (L L' : Pieces) (a b : Int), Rise a L → Rise b L' → flat L = flat L' → L = L' := by
  intro L
  induction L with
  | nil =>
    intro L' a b _ _ h
    cases L' with
    | nil => rfl
    | cons p L' =>
      rw [flat_cons] at h
      have := congrArg List.length h
      simp only [List.length_append, two_len] at this
      have e : (flat ([] : Pieces)).length = 0 := rfl
      omega
  | cons p L ih =>
    intro L' a b h1 h2 h
    cases L' with
    | nil =>
      rw [flat_cons] at h
      have := congrArg List.length h
      simp only [List.length_append, two_len] at this
      have e : (flat ([] : Pieces)).length = 0 := rfl
      omega
    | cons q L' =>
      obtain ⟨p1, p2, p3, p4, p5⟩ := h1
      obtain ⟨q1, q2, q3, q4, q5⟩ := h2
      rw [flat_cons, flat_cons] at h
      have ha := pv_of (t := two p.1 ++ (two p.2.length ++ (p.2 ++ flat L))) (i := 0) (c := p.1) (by omega) rfl
      have hb := pv_of (t := two p.1 ++ (two p.2.length ++ (p.2 ++ flat L))) (i := 0) (c := q.1) (by omega) h
      have e1 : p.1 = q.1 := by have := ha.1; have := hb.1; omega
      have h' : two p.2.length ++ (p.2 ++ flat L) = two q.2.length ++ (q.2 ++ flat L') := by
        rw [e1] at h; exact List.append_cancel_left h
      have hc := pv_of (t := two p.2.length ++ (p.2 ++ flat L)) (i := 0) (c := p.2.length) (by omega) rfl
      have hd := pv_of (t := two p.2.length ++ (p.2 ++ flat L)) (i := 0) (c := q.2.length) (by omega) h'
      have e2 : p.2.length = q.2.length := by have := hc.1; have := hd.1; omega
      have h'' : p.2 ++ flat L = q.2 ++ flat L' := by
        rw [e2] at h'; exact List.append_cancel_left h'
      obtain ⟨e3, e4⟩ := List.append_inj h'' e2
      have := ih L' _ _ p5 q5 e4
      rw [this]
      congr 1
      exact Prod.ext e1 e3
theorem judge_fwd {n : Nat} (t : List UInt8) (ht : t.length ≤ 1056) : ∀ (L : Pieces) (i g : Nat) (last : Int), Rise last L → i ≤ t.length → t.drop i = flat L → -1 ≤ last → last < 24 → L.length < g → l82_0 n t g last (i : Int) = some true := by
  intro L
  induction L with
  | nil =>
    intro i g last h1 h2 h3 _ _ h4
    obtain ⟨g, rfl⟩ : ∃ g', g = g' + 1 := ⟨g - 1, by omega⟩
    have : t.length ≤ i := by
      have := congrArg List.length h3
      rw [List.length_drop] at this
      have e : (flat ([] : Pieces)).length = 0 := rfl
      omega
    show l82_0_st n t (l82_0 n t g) last (i : Int) = _
    unfold l82_0_st
    rw [if_neg (by omega)]
  | cons p L ih =>
    intro i g last h1 h2 h3 hl0 hl1 h4
    simp only [List.length_cons] at h4
    obtain ⟨g, rfl⟩ : ∃ g', g = g' + 1 := ⟨g - 1, by omega⟩
    obtain ⟨p1, p2, p3, p4, p5⟩ := h1
    rw [flat_cons] at h3
    obtain ⟨a1, a2, a3⟩ := pv_of (by omega) h3
    obtain ⟨b1, b2, b3⟩ := pv_of (by omega) a3
    have hlen : p.2.length ≤ t.length - (i + 2 + 2) := by
      have := congrArg List.length b3
      rw [List.length_drop, List.length_append] at this
      omega
    show l82_0_st n t (l82_0 n t g) last (i : Int) = _
    unfold l82_0_st
    rw [if_pos (by omega), ckF (by constructor <;> omega), if_neg (by omega), bindT (s83_ok (by omega) (by omega)), ckF (by constructor <;> omega), show (i : Int) + 2 = ((i + 2 : Nat) : Int) by omega, bindT (s83_ok (by omega) (by omega)), a1, b1, if_neg (by omega), if_neg (by omega), if_neg (by omega), if_neg (by omega), ckF (by constructor <;> omega), if_neg (by omega), ckF (by constructor <;> omega), ckF (by constructor <;> omega), show (i : Int) + 4 + (p.2.length : Int) = ((i + 4 + p.2.length : Nat) : Int) by omega]
    refine ih (i + 4 + p.2.length) g (p.1 : Int) p5 (by omega) ?_ (by omega) (by omega) (by omega)
    have b3 : t.drop (i + 4) = p.2 ++ flat L := b3
    rw [← List.drop_drop, b3]
    simp
/-- The pieces that a sheet is saved in. -/
def piecesOf (rs : Snap) : Nat → Nat → Pieces
  | 0, _ => []
  | m + 1, i => if rw_ rs i = [] then piecesOf rs m (i + 1) else (i, rw_ rs i) :: piecesOf rs m (i + 1)
theorem pieces_len (rs : Snap) : ∀ m i, (piecesOf rs m i).length ≤ m := by
  intro m
  induction m with
  | zero => intro i; exact Nat.le_refl _
  | succ m ih =>
    intro i
    have := ih (i + 1)
    show (if rw_ rs i = [] then piecesOf rs m (i + 1) else (i, rw_ rs i) :: piecesOf rs m (i + 1)).length ≤ _
    split
    · omega
    · simp only [List.length_cons]; omega
theorem pieces_ok {rs : Snap} (hr : Raws rs) : ∀ (m i : Nat), i + m = 24 → (∀ last : Int, last < (i : Int) → Rise last (piecesOf rs m i)) ∧ saveL rs m i = flat (piecesOf rs m i) ∧ ∀ j, i ≤ j → j < 24 → rw_ (fillS empS (piecesOf rs m i)) j = rw_ rs j := by
  intro m
  induction m with
  | zero => intro i h; exact ⟨fun _ _ => trivial, rfl, fun j h1 h2 => by omega⟩
  | succ m ih =>
    intro i h
    obtain ⟨q1, q2, q3⟩ := ih (i + 1) (by omega)
    show (∀ last : Int, last < (i : Int) → Rise last (if rw_ rs i = [] then piecesOf rs m (i + 1) else (i, rw_ rs i) :: piecesOf rs m (i + 1))) ∧ ent i (rw_ rs i) ++ saveL rs m (i + 1) = flat (if rw_ rs i = [] then piecesOf rs m (i + 1) else (i, rw_ rs i) :: piecesOf rs m (i + 1)) ∧ ∀ j, i ≤ j → j < 24 → rw_ (fillS empS (if rw_ rs i = [] then piecesOf rs m (i + 1) else (i, rw_ rs i) :: piecesOf rs m (i + 1))) j = rw_ rs j
    by_cases h0 : rw_ rs i = []
    · rw [if_pos h0]
      refine ⟨fun last hl => q1 last (by omega), by rw [q2]; unfold ent; rw [if_pos h0]; rfl, fun j h1 h2 => ?_⟩
      by_cases hj : j = i
      · rw [hj, h0]
        rw [fillS_low _ empS (i : Int) i empS_raws.1 (q1 _ (by omega)) (Int.le_refl _)]
        exact empS_at i
      · exact q3 j (by omega) h2
    · rw [if_neg h0]
      have hpos : 1 ≤ (rw_ rs i).length := List.length_pos_iff.2 h0
      have hR : ∀ last : Int, last < (i : Int) → Rise last ((i, rw_ rs i) :: piecesOf rs m (i + 1)) := fun last hl => ⟨hl, by show i < 24; omega, hpos, hr.at i, q1 _ (by show (i : Int) < ((i + 1 : Nat) : Int); omega)⟩
      refine ⟨hR, ?_, fun j h1 h2 => ?_⟩
      · rw [q2, flat_cons]
        unfold ent
        rw [if_neg h0]
        simp only [List.append_assoc]
      · obtain ⟨f1, f2⟩ := fill_head (hR ((i : Int) - 1) (by omega))
        by_cases hj : j = i
        · rw [hj]; exact f1
        · rw [f2 j hj]; exact q3 j (by omega) h2
/-- The walk over the cells and the text. -/
theorem l61_ok {n : Nat} (hn : 1000 ≤ n) (t : List UInt8) (ht : t.length ≤ 1056) {tgt : Snap} (htgt : Raws tgt) : ∀ (m c g i : Nat) (L : Pieces) (nx : Int) (B : BS), c + m = 24 → m < g → i ≤ t.length → t.drop i = flat L → Rise ((c : Int) - 1) L → (nx = -1 ∨ ∃ p L', L = p :: L' ∧ nx = (p.1 : Int)) → (∀ j, c ≤ j → j < 24 → rw_ tgt j = rw_ (fillS empS L) j) → ER B.e → (∀ j, j < c → rw_ B.e.k.raw j = rw_ tgt j) →
    ∃ e, l61_5 n t g (i : Int) nx (c : Int) B = ((s84 n { B with e := e }).bind fun r133 => some (r133, (0 : Int))) ∧ ER e ∧ e.k.raw = tgt := by
  intro m
  induction m with
  | zero =>
    intro c g i L nx B h1 h2 h3 h4 h5 h6 h7 h8 h9
    obtain ⟨g, rfl⟩ : ∃ g', g = g' + 1 := ⟨g - 1, by omega⟩
    refine ⟨B.e, ?_, h8, snap_ext h8.e.k.raws.1 htgt.1 (fun j hj => h9 j (by omega))⟩
    show l61_5_st n t (l61_5 n t g) (i : Int) nx (c : Int) B = _
    unfold l61_5_st
    rw [if_neg (by omega)]
  | succ m ih =>
    intro c g i L nx B h1 h2 h3 h4 h5 h6 h7 h8 h9
    obtain ⟨g, rfl⟩ : ∃ g', g = g' + 1 := ⟨g - 1, by omega⟩
    have hc : c < 24 := by omega
    have k2 : ∀ x y B, k61_2 (c : Int) (l61_5 n t g) x y B = l61_5 n t g x y ((c + 1 : Nat) : Int) B := by
      intro x y B
      unfold k61_2
      rw [ckF (by constructor <;> omega)]; rfl
    have hraw : s64 B.e (c : Int) = some (rw_ B.e.k.raw c) := by
      unfold s64; exact bindR (s86_ok h8.e.k.raws hc)
    -- the cell's piece is laid
    have k3 : ∀ (i' : Nat) (L' : Pieces) (nx' : Int), i' ≤ t.length → t.drop i' = flat L' → Rise (c : Int) L' → (nx' = -1 ∨ ∃ p L'', L' = p :: L'' ∧ nx' = (p.1 : Int)) → (∀ j, c + 1 ≤ j → j < 24 → rw_ tgt j = rw_ (fillS empS L') j) →
        ∃ e, k61_3 n (c : Int) B (l61_5 n t g) (i' : Int) nx' (rw_ tgt c) = ((s84 n { B with e := e }).bind fun r133 => some (r133, (0 : Int))) ∧ ER e ∧ e.k.raw = tgt := by
      intro i' L' nx' a1 a2 a3 a4 a5
      unfold k61_3
      rw [bindT hraw]
      by_cases hq : rw_ B.e.k.raw c = rw_ tgt c
      · rw [if_pos (by simpa using hq), k2]
        exact ih (c + 1) g i' L' nx' B (by omega) (by omega) a1 a2 (by rw [show ((c + 1 : Nat) : Int) - 1 = (c : Int) by omega]; exact a3) a4 a5 h8 (by
          intro j hj
          by_cases hjc : j = c
          · rw [hjc]; exact hq
          · exact h9 j (by omega))
      · obtain ⟨e1, f1, f2, f3⟩ := s71_ok hn h8 (c : Int) (rw_ tgt c)
        obtain ⟨g0, g1⟩ := setR_ok (rs := B.e.k.raw) hc (htgt.at c)
        rw [if_neg (by simpa using hq), bindT f1, k2]
        obtain ⟨e2, x1, x2, x3⟩ := ih (c + 1) g i' L' nx' { B with e := e1 } (by omega) (by omega) a1 a2 (by rw [show ((c + 1 : Nat) : Int) - 1 = (c : Int) by omega]; exact a3) a4 a5 f2 (by
          intro j hj
          show rw_ e1.k.raw j = _
          rw [f3, g1, rw_set h8.e.k.raws hc]
          by_cases hjc : j = c
          · rw [if_pos hjc, hjc]
          · rw [if_neg hjc]; exact h9 j (by omega))
        exact ⟨e2, x1, x2, x3⟩
    cases L with
    | nil =>
      have hend : t.length ≤ i := by
        have := congrArg List.length h4
        rw [List.length_drop] at this
        have e : (flat ([] : Pieces)).length = 0 := rfl
        omega
      have hnx : nx = -1 := by
        rcases h6 with h6 | ⟨p, L', h6, _⟩
        · exact h6
        · cases h6
      have ht0 : rw_ tgt c = [] := by rw [h7 c (Nat.le_refl _) hc]; exact empS_at c
      show ∃ e, l61_5_st n t (l61_5 n t g) (i : Int) nx (c : Int) B = _ ∧ _
      unfold l61_5_st k61_4
      rw [if_pos (by omega), if_pos (by omega), if_neg (by omega), if_neg (by omega), ← ht0]
      exact k3 i [] nx h3 h4 trivial h6 (fun j hj hj2 => h7 j (by omega) hj2)
    | cons p L =>
      obtain ⟨f1, f2⟩ := fill_head h5
      obtain ⟨p1, p2, p3, p4, p5⟩ := h5
      rw [flat_cons] at h4
      obtain ⟨a1, a2, a3⟩ := pv_of (by omega) h4
      obtain ⟨b1, b2, b3⟩ := pv_of (by omega) a3
      have b3 : t.drop (i + 4) = p.2 ++ flat L := b3
      have hlen : p.2.length ≤ t.length - (i + 4) := by
        have := congrArg List.length b3
        rw [List.length_drop, List.length_append] at this
        omega
      have hpiece : List.drop (i + 4) (List.take (i + 4 + p.2.length) t) = p.2 := by
        rw [List.drop_take, b3, show i + 4 + p.2.length - (i + 4) = p.2.length by omega]
        simp
      have hrest : t.drop (i + 4 + p.2.length) = flat L := by
        rw [← List.drop_drop, b3]; simp
      have key : ∃ e, k61_4 n t (i : Int) (c : Int) B (l61_5 n t g) (p.1 : Int) = ((s84 n { B with e := e }).bind fun r133 => some (r133, (0 : Int))) ∧ ER e ∧ e.k.raw = tgt := by
        unfold k61_4
        by_cases hp : (p.1 : Int) = (c : Int)
        · have hpc : p.1 = c := by omega
          have htc : rw_ tgt c = p.2 := by rw [h7 c (Nat.le_refl _) hc, ← hpc]; exact f1
          rw [if_pos hp, ckF (by constructor <;> omega), show (i : Int) + 2 = ((i + 2 : Nat) : Int) by omega, bindT (s83_ok (by omega) (by omega)), b1, ckF (by constructor <;> omega), show (i : Int) + 4 + (p.2.length : Int) = ((i + 4 + p.2.length : Nat) : Int) by omega, ckF (by constructor <;> omega), ckF (by omega), show Int.toNat ((i : Int) + 4) = i + 4 by omega, Int.toNat_natCast, hpiece, ← htc]
          rw [htc]
          rw [← htc]
          refine k3 (i + 4 + (rw_ tgt c).length) L (-1) (by rw [htc]; omega) (by rw [htc]; exact hrest) (by rw [← hpc]; exact p5) (Or.inl rfl) (fun j hj hj2 => by rw [h7 j (by omega) hj2, f2 j (by omega)])
        · have ht0 : rw_ tgt c = [] := by
            rw [h7 c (Nat.le_refl _) hc]
            exact fill_none (L := p :: L) (last := (c : Int) - 1) ⟨p1, p2, p3, p4, p5⟩ (fun x hx => by injection hx with hx; subst hx; omega) (by omega) (fun x hx => by injection hx with hx; subst hx; omega)
          rw [if_neg hp, ← ht0]
          exact k3 i (p :: L) (p.1 : Int) h3 (by rw [flat_cons]; exact h4) ⟨by omega, p2, p3, p4, p5⟩ (Or.inr ⟨p, L, rfl, rfl⟩) (fun j hj hj2 => h7 j (by omega) hj2)
      show ∃ e, l61_5_st n t (l61_5 n t g) (i : Int) nx (c : Int) B = _ ∧ _
      unfold l61_5_st
      rw [if_pos (by omega)]
      rcases h6 with h6 | ⟨q, L', h6, h6'⟩
      · rw [if_pos (by omega), if_pos (by omega), bindT (s83_ok (by omega) (by omega)), a1]
        exact key
      · injection h6 with h6 _
        subst h6
        rw [if_neg (by omega), h6']
        exact key
/-- Load. -/
theorem loadCmd {n : Nat} (hn : 2000 ≤ n) {B : BS} {M : BMS} (h : BC B M) (t : List UInt8) :
    (∃ c, c ≠ 0 ∧ s61 n B t = some (B, c) ∧ s62 n M t = some (M, c) ∧ ∀ rs, Raws rs → t ≠ saveL rs 24 0) ∨
    (∃ B' M', s61 n B t = some (B', 0) ∧ s62 n M t = some (M', 0) ∧ BC B' M' ∧ M'.past = [] ∧ M'.next = [] ∧ saveL B'.e.k.raw 24 0 = t ∧ ∀ rs, Raws rs → t = saveL rs 24 0 → B'.e.k.raw = rs) := by
  have hsl : ∀ rs : Snap, Raws rs → (saveL rs 24 0).length ≤ 1056 := by
    intro rs hr
    have : ∀ m i, (saveL rs m i).length ≤ 44 * m := by
      intro m
      induction m with
      | zero => intro i; exact Nat.le_refl _
      | succ m ih =>
        intro i
        show (ent i (rw_ rs i) ++ saveL rs m (i + 1)).length ≤ _
        rw [List.length_append]
        have := ent_len (c := i) (hr.at i)
        have := ih (i + 1)
        omega
    exact this 24 0
  unfold s61 s62
  by_cases hl : (1056 : Int) < (t.length : Int)
  · left
    rw [if_pos hl, if_pos hl]
    refine ⟨1, by decide, rfl, rfl, fun rs hr e => ?_⟩
    have := hsl rs hr
    rw [← e] at this
    omega
  rw [if_neg hl, if_neg hl]
  have ht : t.length ≤ 1056 := by omega
  rcases judge_ok (n := n) t ht M t.length 0 (-1) (by omega) (Nat.zero_le _) (by omega) (by omega) with ⟨L, r1, r2, r3, r4⟩ | ⟨r3, r4⟩
  · right
    have htgt : Raws (fillS empS L) := fillS_raws L empS (-1) empS_raws r1
    obtain ⟨hist, u, r, b, hR, hcur, hp, hx⟩ := h.ring
    obtain ⟨e, f1, f2, f3⟩ := l61_ok (n := n) (by omega) t ht htgt 24 0 n 0 L (-1) B (by omega) (by omega) (Nat.zero_le _) r2 r1 (Or.inl rfl) (fun j _ _ => rfl) h.e.er (fun j hj => by omega)
    obtain ⟨P, T, g1, g2⟩ := s84_ok (by omega : 1000 ≤ n) (B := { B with e := e }) (hR.e e) (fillS empS L) htgt
    obtain ⟨me, k1, k2, k3⟩ := s81_ok (by omega : 1000 ≤ n) htgt (M := M) h.e.m
    have e82 : s82 n t = some true := r3 n (by omega)
    refine ⟨{ B with e := e, pool := P, turned := T, base := 0, undos := 0, redos := 0 }, { M with e := me, past := [], next := [] }, ?_, ?_, ⟨⟨f2.e, f2.emp, k2, by rw [k3, f3]⟩, (fun _ => fillS empS L), 0, 0, 0, g2, f3, rfl, rfl⟩, rfl, rfl, ?_, ?_⟩
    · rw [bindT e82, if_pos rfl]
      exact f1.trans (bindT g1)
    · refine (r4 n (List.replicate 24 []) (by omega) (by simp)).trans ?_
      rw [bindT (show s81 n M (fillS (List.replicate 24 []) L) 24 = _ from k1)]
    · show saveL e.k.raw 24 0 = t
      rw [f3, save_fill 24 0 L _ (by omega) r1 (fun j _ _ => rfl), ← r2, List.drop_zero]
    · intro rs hr he
      show e.k.raw = rs
      obtain ⟨q1, q2, q3⟩ := pieces_ok hr 24 0 (by omega)
      have : L = piecesOf rs 24 0 := flat_inj L _ _ _ r1 (q1 (-1) (by omega)) (by rw [← r2, List.drop_zero, he, q2])
      rw [f3, this]
      exact snap_ext (by rw [fillS_len]; exact empS_raws.1) hr.1 (fun j hj => q3 j (Nat.zero_le _) hj)
  · left
    refine ⟨12, by decide, ?_, r4 n _ (by omega) (by simp), fun rs hr he => ?_⟩
    · have e82 : s82 n t = some false := r3 n (by omega)
      rw [bindT e82, if_neg (by decide)]
    · obtain ⟨q1, q2, q3⟩ := pieces_ok hr 24 0 (by omega)
      have hpl := pieces_len rs 24 0
      have := judge_fwd (n := n) t ht (piecesOf rs 24 0) 0 (t.length + 100) (-1) (q1 (-1) (by omega)) (Nat.zero_le _) (by rw [List.drop_zero, he, q2]) (by omega) (by omega) (by omega)
      have e := r3 (t.length + 100) (by omega)
      have h0 : ((0 : Nat) : Int) = 0 := rfl
      rw [this] at e
      cases e
end Go.Proofs.Qxb6500272aGreat
