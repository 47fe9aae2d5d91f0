/-
  Plain laws, the document: Load on both sides.
-/
import Derived.Test.Qxb6500272aGreatB2
namespace Go.Proofs.Qxb6500272aGreat
open Go
set_option linter.unusedVariables false
set_option linter.unusedSimpArgs false
def pv (t : List UInt8) (i : Nat) : Int :=
  if (t.getD i 0).toNat < 48 ∨ 57 < (t.getD i 0).toNat ∨ (t.getD (i + 1) 0).toNat < 48 ∨ 57 < (t.getD (i + 1) 0).toNat then -1
  else ((((t.getD i 0).toNat - 48) * 10 + ((t.getD (i + 1) 0).toNat - 48) : Nat) : Int)
theorem s83_ok {t : List UInt8} {i : Nat} (h : i + 1 < t.length) (hl : t.length ≤ 100000) : s83 t (i : Int) = some (pv t i) := by
  unfold s83 pv
  rw [ckF (by omega), ckF (by constructor <;> omega), ckF (by omega), show (i : Int) + 1 = ((i + 1 : Nat) : Int) by omega, Int.toNat_natCast, Int.toNat_natCast]
  by_cases h1 : ((t.getD i 0).toNat : Int) < 48
  · rw [if_pos h1, if_pos (Or.inl (by omega))]
  rw [if_neg h1]
  by_cases h2 : (57 : Int) < ((t.getD i 0).toNat : Int)
  · rw [if_pos h2, if_pos (Or.inr (Or.inl (by omega)))]
  rw [if_neg h2]
  by_cases h3 : ((t.getD (i + 1) 0).toNat : Int) < 48
  · rw [if_pos h3, if_pos (Or.inr (Or.inr (Or.inl (by omega))))]
  rw [if_neg h3]
  by_cases h4 : (57 : Int) < ((t.getD (i + 1) 0).toNat : Int)
  · rw [if_pos h4, if_pos (Or.inr (Or.inr (Or.inr (by omega))))]
  rw [if_neg h4, if_neg (by omega), ckF (by omega), ckF (by constructor <;> omega), ckF (by constructor <;> omega), ckF (by omega), ckF (by constructor <;> omega), ckF (by constructor <;> omega)]
  congr 1
  omega
theorem s85_ok {t : List UInt8} {i : Nat} (h : i + 1 < t.length) (hl : t.length ≤ 100000) : s85 t (i : Int) = some (pv t i) := by
  unfold s85 pv
  rw [ckF (by omega), show (i : Int) + 1 = ((i + 1 : Nat) : Int) by omega, Int.toNat_natCast, Int.toNat_natCast]
  by_cases h1 : ((t.getD i 0).toNat : Int) < 48
  · rw [if_pos h1, if_pos (Or.inl (by omega))]
  rw [if_neg h1]
  by_cases h2 : (57 : Int) < ((t.getD i 0).toNat : Int)
  · rw [if_pos h2, if_pos (Or.inr (Or.inl (by omega)))]
  rw [if_neg h2, ckF (by constructor <;> omega), ckF (by omega)]
  by_cases h3 : ((t.getD (i + 1) 0).toNat : Int) < 48
  · rw [if_pos h3, if_pos (Or.inr (Or.inr (Or.inl (by omega))))]
  rw [if_neg h3]
  by_cases h4 : (57 : Int) < ((t.getD (i + 1) 0).toNat : Int)
  · rw [if_pos h4, if_pos (Or.inr (Or.inr (Or.inr (by omega))))]
  rw [if_neg h4, if_neg (by omega), ckF (by omega), ckF (by constructor <;> omega), ckF (by constructor <;> omega), ckF (by omega), ckF (by constructor <;> omega), ckF (by constructor <;> omega)]
  congr 1
  omega
theorem pv_two {t : List UInt8} {i : Nat} (h : i + 1 < t.length) {c : Nat} (hc : pv t i = (c : Int)) : t.drop i = two c ++ t.drop (i + 2) := by
  unfold pv at hc
  by_cases hq : (t.getD i 0).toNat < 48 ∨ 57 < (t.getD i 0).toNat ∨ (t.getD (i + 1) 0).toNat < 48 ∨ 57 < (t.getD (i + 1) 0).toNat
  · rw [if_pos hq] at hc; omega
  · rw [if_neg hq] at hc
    have hc : ((t.getD i 0).toNat - 48) * 10 + ((t.getD (i + 1) 0).toNat - 48) = c := by omega
    have e1 : t.getD i 0 = t[i]'(by omega) := by rw [List.getD_eq_getElem?_getD, List.getElem?_eq_getElem (by omega)]; rfl
    have e2 : t.getD (i + 1) 0 = t[i + 1]'h := by rw [List.getD_eq_getElem?_getD, List.getElem?_eq_getElem h]; rfl
    rw [e1, e2] at hc hq
    rw [List.drop_eq_getElem_cons (by omega : i < t.length), List.drop_eq_getElem_cons h]
    generalize t[i]'(by omega) = a at *
    generalize t[i + 1]'h = b at *
    have ha : UInt8.ofNat (48 + c / 10) = a := by
      apply UInt8.toNat_inj.1
      rw [UInt8.toNat_ofNat']
      omega
    have hb : UInt8.ofNat (48 + c % 10) = b := by
      apply UInt8.toNat_inj.1
      rw [UInt8.toNat_ofNat']
      omega
    unfold two
    rw [ha, hb]; rfl
abbrev Pieces := List (Nat × List UInt8)
def flat (L : Pieces) : List UInt8 := L.flatMap fun p => two p.1 ++ (two p.2.length ++ p.2)
def Rise : Int → Pieces → Prop
  | _, [] => True
  | last, p :: L => last < (p.1 : Int) ∧ p.1 < 24 ∧ 1 ≤ p.2.length ∧ p.2.length ≤ 40 ∧ Rise (p.1 : Int) L
def fillS (a : Snap) (L : Pieces) : Snap := L.foldl (fun a p => a.set p.1 p.2) a
theorem fillS_len (L : Pieces) : ∀ a : Snap, (fillS a L).length = a.length := by
  induction L with
  | nil => intro a; rfl
  | cons p L ih => intro a; show (fillS (a.set p.1 p.2) L).length = _; rw [ih, List.length_set]
theorem fillS_low (L : Pieces) : ∀ (a : Snap) (last : Int) (j : Nat), a.length = 24 → Rise last L → (j : Int) ≤ last → rw_ (fillS a L) j = rw_ a j := by
  induction L with
  | nil => intro a last j _ _ _; rfl
  | cons p L ih =>
    intro a last j ha hr hj
    obtain ⟨h1, h2, h3, h4, h5⟩ := hr
    show rw_ (fillS (a.set p.1 p.2) L) j = _
    rw [ih _ (p.1 : Int) j (by rw [List.length_set]; exact ha) h5 (by omega)]
    have : rw_ (a.set p.1 p.2) j = if j = p.1 then p.2 else rw_ a j := getD_set _ _ (by rw [ha]; exact h2) j
    rw [this, if_neg (by omega)]
theorem fillS_congr (L : Pieces) : ∀ (a b : Snap) (last : Int) (j : Nat), a.length = 24 → b.length = 24 → Rise last L → rw_ a j = rw_ b j → rw_ (fillS a L) j = rw_ (fillS b L) j := by
  induction L with
  | nil => intro a b last j _ _ _ h; exact h
  | cons p L ih =>
    intro a b last j ha hb hr h
    obtain ⟨h1, h2, h3, h4, h5⟩ := hr
    refine ih _ _ (p.1 : Int) j (by rw [List.length_set]; exact ha) (by rw [List.length_set]; exact hb) h5 ?_
    have e1 : rw_ (a.set p.1 p.2) j = if j = p.1 then p.2 else rw_ a j := getD_set _ _ (by rw [ha]; exact h2) j
    have e2 : rw_ (b.set p.1 p.2) j = if j = p.1 then p.2 else rw_ b j := getD_set _ _ (by rw [hb]; exact h2) j
    rw [e1, e2, h]
theorem fillS_raws (L : Pieces) : ∀ (a : Snap) (last : Int), Raws a → Rise last L → Raws (fillS a L) := by
  induction L with
  | nil => intro a last h _; exact h
  | cons p L ih =>
    intro a last h hr
    obtain ⟨h1, h2, h3, h4, h5⟩ := hr
    exact ih _ (p.1 : Int) (h.set h4) h5
def empS : Snap := List.replicate 24 []
theorem empS_raws : Raws empS := ⟨by simp [empS], fun r hr => by rw [List.eq_of_mem_replicate hr]; exact Nat.zero_le _⟩
theorem empS_at (j : Nat) : rw_ empS j = [] := by
  unfold rw_ empS
  rw [List.getD_eq_getElem?_getD, List.getElem?_replicate]
  split <;> rfl
/-- The head of the pieces from cell c on. -/
theorem fill_head {p : Nat × List UInt8} {L : Pieces} {last : Int} (hr : Rise last (p :: L)) : rw_ (fillS empS (p :: L)) p.1 = p.2 ∧ ∀ j, j ≠ p.1 → rw_ (fillS empS (p :: L)) j = rw_ (fillS empS L) j := by
  obtain ⟨h1, h2, h3, h4, h5⟩ := hr
  have he := empS_raws.1
  have e1 : ∀ j, rw_ (empS.set p.1 p.2) j = if j = p.1 then p.2 else rw_ empS j := fun j => getD_set _ _ (by rw [he]; exact h2) j
  constructor
  · show rw_ (fillS (empS.set p.1 p.2) L) p.1 = _
    rw [fillS_low L _ (p.1 : Int) p.1 (by rw [List.length_set]; exact he) h5 (Int.le_refl _), e1, if_pos rfl]
  · intro j hj
    show rw_ (fillS (empS.set p.1 p.2) L) j = _
    exact fillS_congr L _ _ (p.1 : Int) j (by rw [List.length_set]; exact he) he h5 (by rw [e1, if_neg hj])
theorem fill_none {L : Pieces} {last : Int} (hr : Rise last L) {c : Nat} (hc : ∀ p ∈ L.head?, c ≠ p.1) (hl : last < (c : Int)) (hge : ∀ p ∈ L.head?, (c : Int) ≤ p.1) : rw_ (fillS empS L) c = [] := by
  cases L with
  | nil => exact empS_at c
  | cons p L =>
    have h1 := hc p rfl
    have h2 := hge p rfl
    obtain ⟨q1, q2, q3, q4, q5⟩ := hr
    rw [fillS_low (p :: L) empS ((c : Int)) c empS_raws.1 ⟨by omega, q2, q3, q4, q5⟩ (Int.le_refl _)]
    exact empS_at c
/-- A saved text has one form. -/
theorem save_fill : ∀ (m i : Nat) (L : Pieces) (rs : Snap), i + m = 24 → Rise ((i : Int) - 1) L → (∀ j, i ≤ j → j < 24 → rw_ rs j = rw_ (fillS empS L) j) → saveL rs m i = flat L := by
  intro m
  induction m with
  | zero =>
    intro i L rs h1 hr h2
    cases L with
    | nil => rfl
    | cons p L =>
      obtain ⟨q1, q2, _⟩ := hr
      omega
  | succ m ih =>
    intro i L rs h1 hr h2
    show ent i (rw_ rs i) ++ saveL rs m (i + 1) = _
    rw [h2 i (Nat.le_refl _) (by omega)]
    cases L with
    | nil =>
      have : rw_ (fillS empS ([] : Pieces)) i = [] := empS_at i
      rw [this]
      have := ih (i + 1) [] rs (by omega) trivial (fun j hj hj2 => h2 j (by omega) hj2)
      rw [this]
      rfl
    | cons p L =>
      obtain ⟨f1, f2⟩ := fill_head hr
      have hr' := hr
      obtain ⟨q1, q2, q3, q4, q5⟩ := hr
      by_cases hp : p.1 = i
      · have hne : ¬ p.2 = [] := fun e => by rw [e] at q3; simp at q3
        have := ih (i + 1) L rs (by omega) (by rw [hp] at q5; rw [show ((i + 1 : Nat) : Int) - 1 = (i : Int) by omega]; exact q5) (fun j hj hj2 => by rw [h2 j (by omega) hj2, f2 j (by omega)])
        rw [this]
        have e : rw_ (fillS empS (p :: L)) i = p.2 := by rw [← hp]; exact f1
        rw [e]
        unfold ent
        rw [if_neg hne, ← hp]
        show _ = (two p.1 ++ (two p.2.length ++ p.2)) ++ flat L
        rfl
      · have e : rw_ (fillS empS (p :: L)) i = [] := fill_none hr' (fun x hx => by injection hx with hx; subst hx; exact fun e => hp e.symm) (by omega) (fun x hx => by injection hx with hx; subst hx; omega)
        rw [e]
        have := ih (i + 1) (p :: L) rs (by omega) ⟨by omega, q2, q3, q4, q5⟩ (fun j hj hj2 => h2 j (by omega) hj2)
        rw [this]
        rfl
/-! ### The text is judged -/
theorem judge_ok {n : Nat} (t : List UInt8) (ht : t.length ≤ 1056) (M : BMS) : ∀ (k i : Nat) (last : Int), t.length - i ≤ k → i ≤ t.length → -1 ≤ last → last < 24 →
    (∃ L, Rise last L ∧ t.drop i = flat L ∧ (∀ g, k < g → l82_0 n t g last (i : Int) = some true) ∧ (∀ g a, k < g → a.length = 24 → l62_0 n M t g last (i : Int) a = (s81 n M (fillS a L) 24).bind fun r95 => some ({ r95 with past := [], next := [] }, (0 : Int)))) ∨
    ((∀ g, k < g → l82_0 n t g last (i : Int) = some false) ∧ (∀ g a, k < g → a.length = 24 → l62_0 n M t g last (i : Int) a = some (M, 12))) := by
  intro k
  induction k with
  | zero =>
    intro i last h1 h2 h3 h4
    left
    have hi : i = t.length := by omega
    refine ⟨[], trivial, by rw [hi, List.drop_length]; rfl, fun g hg => ?_, fun g a hg ha => ?_⟩
    · obtain ⟨g, rfl⟩ : ∃ g', g = g' + 1 := ⟨g - 1, by omega⟩
      show l82_0_st n t (l82_0 n t g) last (i : Int) = _
      unfold l82_0_st
      rw [if_neg (by omega)]
    · obtain ⟨g, rfl⟩ : ∃ g', g = g' + 1 := ⟨g - 1, by omega⟩
      show l62_0_st n M t (l62_0 n M t g) last (i : Int) a = _
      unfold l62_0_st
      rw [if_neg (by omega)]
      rfl
  | succ k ih =>
    intro i last h1 h2 h3 h4
    by_cases hend : i = t.length
    · left
      refine ⟨[], trivial, by rw [hend, List.drop_length]; rfl, fun g hg => ?_, fun g a hg ha => ?_⟩
      · obtain ⟨g, rfl⟩ : ∃ g', g = g' + 1 := ⟨g - 1, by omega⟩
        show l82_0_st n t (l82_0 n t g) last (i : Int) = _
        unfold l82_0_st
        rw [if_neg (by omega)]
      · obtain ⟨g, rfl⟩ : ∃ g', g = g' + 1 := ⟨g - 1, by omega⟩
        show l62_0_st n M t (l62_0 n M t g) last (i : Int) a = _
        unfold l62_0_st
        rw [if_neg (by omega)]
        rfl
    have hi : i < t.length := by omega
    -- one step of both
    have st82 : ∀ g, k + 1 < g → ∃ g', g = g' + 1 ∧ k < g' ∧ l82_0 n t g last (i : Int) = l82_0_st n t (l82_0 n t g') last (i : Int) := fun g hg => ⟨g - 1, by omega, by omega, by obtain ⟨g', rfl⟩ : ∃ g', g = g' + 1 := ⟨g - 1, by omega⟩; rfl⟩
    have st62 : ∀ g a, k + 1 < g → ∃ g', g = g' + 1 ∧ k < g' ∧ l62_0 n M t g last (i : Int) a = l62_0_st n M t (l62_0 n M t g') last (i : Int) a := fun g a hg => ⟨g - 1, by omega, by omega, by obtain ⟨g', rfl⟩ : ∃ g', g = g' + 1 := ⟨g - 1, by omega⟩; rfl⟩
    by_cases h4r : t.length - i < 4
    · right
      refine ⟨fun g hg => ?_, fun g a hg ha => ?_⟩
      · obtain ⟨g', _, _, e⟩ := st82 g hg
        rw [e]; unfold l82_0_st
        rw [if_pos (by omega), ckF (by constructor <;> omega), if_pos (by omega)]
      · obtain ⟨g', _, _, e⟩ := st62 g a hg
        rw [e]; unfold l62_0_st
        rw [if_pos (by omega), ckF (by constructor <;> omega), if_pos (by omega)]
    have e82 : ∀ g', l82_0_st n t (l82_0 n t g') last (i : Int) = (if pv t i ≤ last then some false else if (24 : Int) ≤ pv t i then some false else if pv t (i + 2) < 1 then some false else if (40 : Int) < pv t (i + 2) then some false else if ((t.length : Int) - (i : Int)) - 4 < pv t (i + 2) then some false else (ck (i64ok (((i : Int) + 4) + pv t (i + 2))) <| l82_0 n t g' (pv t i) (((i : Int) + 4) + pv t (i + 2)))) := by
      intro g'
      unfold l82_0_st
      rw [if_pos (by omega), ckF (by constructor <;> omega), if_neg (by omega), bindT (s83_ok (by omega) (by omega)), ckF (by constructor <;> omega), show (i : Int) + 2 = ((i + 2 : Nat) : Int) by omega, bindT (s83_ok (by omega) (by omega)), ckF (by constructor <;> omega), ckF (by constructor <;> omega)]
    have e62 : ∀ g' a, l62_0_st n M t (l62_0 n M t g') last (i : Int) a = (if pv t i ≤ last then some (M, 12) else if (24 : Int) ≤ pv t i then some (M, 12) else if pv t (i + 2) < 1 then some (M, 12) else if (40 : Int) < pv t (i + 2) then some (M, 12) else if ((t.length : Int) - (i : Int)) - 4 < pv t (i + 2) then some (M, 12) else
        (ck (i64ok (((i : Int) + 4) + pv t (i + 2))) <| ck (0 ≤ ((i : Int) + 4) ∧ ((i : Int) + 4) ≤ (((i : Int) + 4) + pv t (i + 2)) ∧ (((i : Int) + 4) + pv t (i + 2)) ≤ (t.length : Int)) <| (getN a 24 (pv t i)).bind fun x92 => (l62_0 n M t g' (pv t i) (((i : Int) + 4) + pv t (i + 2)) (List.set a (Int.toNat (pv t i)) (List.drop (Int.toNat ((i : Int) + 4)) (List.take (Int.toNat (((i : Int) + 4) + pv t (i + 2))) t)))))) := by
      intro g' a
      unfold l62_0_st
      rw [if_pos (by omega), ckF (by constructor <;> omega), if_neg (by omega), bindT (s85_ok (by omega) (by omega)), ckF (by constructor <;> omega), show (i : Int) + 2 = ((i + 2 : Nat) : Int) by omega, bindT (s85_ok (by omega) (by omega)), ckF (by constructor <;> omega), ckF (by constructor <;> omega)]
    have bad : ∀ (q : ∀ (A : Type) (x y : A), (if pv t i ≤ last then x else if (24 : Int) ≤ pv t i then x else if pv t (i + 2) < 1 then x else if (40 : Int) < pv t (i + 2) then x else if ((t.length : Int) - (i : Int)) - 4 < pv t (i + 2) then x else y) = x), (∀ g, k + 1 < g → l82_0 n t g last (i : Int) = some false) ∧ (∀ g a, k + 1 < g → a.length = 24 → l62_0 n M t g last (i : Int) a = some (M, 12)) := by
      intro q
      refine ⟨fun g hg => ?_, fun g a hg ha => ?_⟩
      · obtain ⟨g', _, _, e⟩ := st82 g hg
        rw [e, e82]; exact q _ _ _
      · obtain ⟨g', _, _, e⟩ := st62 g a hg
        rw [e, e62]; exact q _ _ _
    by_cases b1 : pv t i ≤ last
    · right; exact bad (fun A x y => by rw [if_pos b1])
    by_cases b2 : (24 : Int) ≤ pv t i
    · right; exact bad (fun A x y => by rw [if_neg b1, if_pos b2])
    by_cases b3 : pv t (i + 2) < 1
    · right; exact bad (fun A x y => by rw [if_neg b1, if_neg b2, if_pos b3])
    by_cases b4 : (40 : Int) < pv t (i + 2)
    · right; exact bad (fun A x y => by rw [if_neg b1, if_neg b2, if_neg b3, if_pos b4])
    by_cases b5 : ((t.length : Int) - (i : Int)) - 4 < pv t (i + 2)
    · right; exact bad (fun A x y => by rw [if_neg b1, if_neg b2, if_neg b3, if_neg b4, if_pos b5])
    obtain ⟨c, hc⟩ : ∃ c : Nat, pv t i = (c : Int) := ⟨(pv t i).toNat, by omega⟩
    obtain ⟨m, hm⟩ : ∃ m : Nat, pv t (i + 2) = (m : Int) := ⟨(pv t (i + 2)).toNat, by omega⟩
    have hpos : (((i : Int) + 4) + pv t (i + 2)) = ((i + 4 + m : Nat) : Int) := by omega
    have good82 : ∀ g, k + 1 < g → ∃ g', k < g' ∧ l82_0 n t g last (i : Int) = l82_0 n t g' (c : Int) ((i + 4 + m : Nat) : Int) := by
      intro g hg
      obtain ⟨g', _, hg', e⟩ := st82 g hg
      refine ⟨g', hg', ?_⟩
      rw [e, e82, if_neg b1, if_neg b2, if_neg b3, if_neg b4, if_neg b5, hpos, ckF (by constructor <;> omega), hc]
    have good62 : ∀ g a, k + 1 < g → a.length = 24 → ∃ g', k < g' ∧ l62_0 n M t g last (i : Int) a = l62_0 n M t g' (c : Int) ((i + 4 + m : Nat) : Int) (List.set a c ((t.drop (i + 4)).take m)) := by
      intro g a hg ha
      obtain ⟨g', _, hg', e⟩ := st62 g a hg
      refine ⟨g', hg', ?_⟩
      have hdt : List.drop (i + 4) (List.take (i + 4 + m) t) = (t.drop (i + 4)).take m := by
        rw [List.drop_take]; congr 1; omega
      rw [e, e62, if_neg b1, if_neg b2, if_neg b3, if_neg b4, if_neg b5, hpos, ckF (by constructor <;> omega), ckF (by omega), hc, bindT (getNd2 [] ha (by omega)), Int.toNat_natCast, show Int.toNat ((i : Int) + 4) = i + 4 by omega, Int.toNat_natCast, hdt]
    have hpl : ((t.drop (i + 4)).take m).length = m := by rw [List.length_take, List.length_drop]; omega
    rcases ih (i + 4 + m) (c : Int) (by omega) (by omega) (by omega) (by omega) with ⟨L, r1, r2, r3, r4⟩ | ⟨r3, r4⟩
    · left
      refine ⟨(c, (t.drop (i + 4)).take m) :: L, ⟨by show last < (c : Int); omega, by show c < 24; omega, by show 1 ≤ _; rw [hpl]; omega, by show _ ≤ 40; rw [hpl]; omega, r1⟩, ?_, fun g hg => ?_, fun g a hg ha => ?_⟩
      · show t.drop i = (two c ++ (two ((t.drop (i + 4)).take m).length ++ (t.drop (i + 4)).take m)) ++ flat L
        rw [hpl, pv_two (by omega) hc, pv_two (t := t) (i := i + 2) (by omega) hm, ← r2]
        have : t.drop (i + 4) = (t.drop (i + 4)).take m ++ t.drop (i + 4 + m) := by
          have := (List.take_append_drop m (t.drop (i + 4))).symm
          rwa [List.drop_drop] at this
        simp only [List.append_assoc]
        exact congrArg (fun z => two c ++ (two m ++ z)) this
      · obtain ⟨g', hg', e⟩ := good82 g hg
        rw [e]; exact r3 g' hg'
      · obtain ⟨g', hg', e⟩ := good62 g a hg ha
        rw [e, r4 g' _ hg' (by rw [List.length_set]; exact ha)]
        rfl
    · right
      refine ⟨fun g hg => ?_, fun g a hg ha => ?_⟩
      · obtain ⟨g', hg', e⟩ := good82 g hg
        rw [e]; exact r3 g' hg'
      · obtain ⟨g', hg', e⟩ := good62 g a hg ha
        rw [e]; exact r4 g' _ hg' (by rw [List.length_set]; exact ha)
end Go.Proofs.Qxb6500272aGreat
