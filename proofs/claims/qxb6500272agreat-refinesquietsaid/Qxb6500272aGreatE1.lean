/-
  Plain laws, edits: what becomes of a node: both sides.
-/
import Derived.Test.Qxb6500272aGreatE0
namespace Go.Proofs.Qxb6500272aGreat
open Go
set_option linter.unusedVariables false
set_option linter.unusedSimpArgs false
def setRC (rows : Bool) (r : RefT) (v : Int) : RefT := if rows = true then { r with row := v } else { r with col := v }
def getRC (rows : Bool) (r : RefT) : Int := if rows = true then r.row else r.col
def mvN (ins rows : Bool) (n a : Int) (x : NodeT) : NodeT :=
  if x.kind = 3 then
    (if s116 x.r1 = true then
      (if lowP ins a (getRC rows x.r1) ≤ cutP n (highP ins a (getRC rows x.r1)) then { x with r1 := setRC rows x.r1 (lowP ins a (getRC rows x.r1)) } else s148)
    else x)
  else if x.kind = 4 then
    (if s116 x.r1 = true ∧ s116 x.r2 = true then
      (if getRC rows x.r1 ≤ getRC rows x.r2 then
        (if lowP ins a (getRC rows x.r1) ≤ cutP n (highP ins a (getRC rows x.r2)) then { x with r1 := setRC rows x.r1 (lowP ins a (getRC rows x.r1)), r2 := setRC rows x.r2 (cutP n (highP ins a (getRC rows x.r2))) } else s148)
      else
        (if lowP ins a (getRC rows x.r2) ≤ cutP n (highP ins a (getRC rows x.r1)) then { x with r1 := setRC rows x.r1 (cutP n (highP ins a (getRC rows x.r1))), r2 := setRC rows x.r2 (lowP ins a (getRC rows x.r2)) } else s148))
    else x)
  else x
theorem bindIte {α β : Type} {c : Prop} [Decidable c] {a b : α} {f : α → Option β} : (some (if c then a else b)).bind f = if c then f a else f b := by
  split <;> rfl
section
variable {k a : Int} {ins rows : Bool} {n : Int}
theorem rc_bd (h : Ed k a ins rows n) {r : RefT} (hg : s116 r = true) : 0 ≤ getRC rows r ∧ getRC rows r < n := by
  obtain ⟨g1, g2, g3, g4⟩ := s116_iff.1 hg
  unfold getRC
  rcases h.kind with ⟨_, _, rfl, rfl⟩ | ⟨_, _, rfl, rfl⟩ | ⟨_, _, rfl, rfl⟩ | ⟨_, _, rfl, rfl⟩ <;> simp <;> omega
theorem lowP_bd {x : Int} (hx : 0 ≤ x) (ha : 0 ≤ a) : 0 ≤ lowP ins a x := by
  unfold lowP
  repeat' split
  all_goals omega
/-- The model's node. -/
theorem s122_eq (h : Ed k a ins rows n) {m : Nat} (hm : 100 ≤ m) (x : NodeT) : s122 m x k a = some (mvN ins rows n a x) := by
  have hn := h.n46
  have ha := h.at_
  have k1 : ∀ (hg : s116 x.r1 = true), k122_1 { x with r1 := setRC rows x.r1 (if lowP ins a (getRC rows x.r1) ≤ cutP n (highP ins a (getRC rows x.r1)) then lowP ins a (getRC rows x.r1) else -1) } = some (if lowP ins a (getRC rows x.r1) ≤ cutP n (highP ins a (getRC rows x.r1)) then { x with r1 := setRC rows x.r1 (lowP ins a (getRC rows x.r1)) } else s148) := by
    intro hg
    obtain ⟨g1, g2, g3, g4⟩ := s116_iff.1 hg
    have hb := rc_bd h hg
    have hl := lowP_bd (ins := ins) hb.1 ha.1
    unfold k122_1
    by_cases hq : lowP ins a (getRC rows x.r1) ≤ cutP n (highP ins a (getRC rows x.r1))
    · rw [if_pos hq]
      unfold setRC
      cases rows
      · simp only [Bool.false_eq_true, if_false]
        rw [if_neg (by omega), if_neg (by omega)]
        rw [if_pos hq]
      · simp only [if_true]
        rw [if_neg (by omega), if_neg (by omega)]
        rw [if_pos hq]
    · rw [if_neg hq]
      unfold setRC
      cases rows
      · simp only [Bool.false_eq_true, if_false]
        rw [if_neg (by omega), if_pos (by decide), if_neg hq]
      · simp only [if_true]
        rw [if_pos (by decide), if_neg hq]
  have hbk : s149 m x.r1 x.r2 = some (blkS x.r1 x.r2) := s149_ok hm _ _
  have hb2 : (blkS x.r1 x.r2).2 = true ↔ s116 x.r1 = true ∧ s116 x.r2 = true := by
    unfold blkS
    split
    · rename_i hh; simp [hh]
    · rename_i hh; simp at hh ⊢; exact hh
  have kr : s116 x.r1 = true ∧ s116 x.r2 = true → ∀ (f g : Int → Int → Option NodeT), (∀ p q, f p q = some { x with r1 := setRC rows x.r1 p, r2 := setRC rows x.r2 q }) →
      (if getRC rows x.r2 < getRC rows x.r1 then (s150 (getRC rows x.r2) (getRC rows x.r1) n a ins).bind (fun r => if r.1 < (0 : Int) then some s148 else if getRC rows x.r2 < getRC rows x.r1 then f r.2 r.1 else f r.1 r.2)
        else (s150 (getRC rows x.r1) (getRC rows x.r2) n a ins).bind (fun r => if r.1 < (0 : Int) then some s148 else if getRC rows x.r2 < getRC rows x.r1 then f r.2 r.1 else f r.1 r.2)) =
      some (if getRC rows x.r1 ≤ getRC rows x.r2 then
        (if lowP ins a (getRC rows x.r1) ≤ cutP n (highP ins a (getRC rows x.r2)) then { x with r1 := setRC rows x.r1 (lowP ins a (getRC rows x.r1)), r2 := setRC rows x.r2 (cutP n (highP ins a (getRC rows x.r2))) } else s148)
      else
        (if lowP ins a (getRC rows x.r2) ≤ cutP n (highP ins a (getRC rows x.r1)) then { x with r1 := setRC rows x.r1 (cutP n (highP ins a (getRC rows x.r1))), r2 := setRC rows x.r2 (lowP ins a (getRC rows x.r2)) } else s148)) := by
    intro hg f _ hf
    have hb1 := rc_bd h hg.1
    have hb2 := rc_bd h hg.2
    have hl1 := lowP_bd (ins := ins) hb1.1 ha.1
    have hl2 := lowP_bd (ins := ins) hb2.1 ha.1
    by_cases hq : getRC rows x.r2 < getRC rows x.r1
    · rw [if_pos hq, if_neg (by omega), s150_eq h ⟨hb2.1, by omega, hb1.2⟩, bindIte]
      split
      · simp only
        rw [if_neg (by omega), hf]
      · simp only
        rw [if_pos (by decide)]
    · rw [if_neg hq, if_pos (by omega), s150_eq h ⟨hb1.1, by omega, hb2.2⟩, bindIte]
      split
      · simp only
        rw [if_neg (by omega), hf]
      · simp only
        rw [if_pos (by decide)]
  unfold s122 mvN
  by_cases h3 : x.kind = 3
  · have h4 : ¬ x.kind = 4 := by omega
    rw [if_pos h3, if_pos h3, if_pos h3]
    by_cases hg : s116 x.r1 = true
    · rw [if_pos hg, if_pos hg, if_pos hg]
      have hb := rc_bd h hg
      have hs := s147_eq h hb
      have := k1 hg
      rcases h.kind with ⟨rfl, rfl, rfl, rfl⟩ | ⟨rfl, rfl, rfl, rfl⟩ | ⟨rfl, rfl, rfl, rfl⟩ | ⟨rfl, rfl, rfl, rfl⟩
      · rw [if_pos rfl]; exact (bindT hs).trans this
      · rw [if_neg (by decide), if_pos rfl]; exact (bindT hs).trans this
      · rw [if_neg (by decide), if_neg (by decide)]; exact (bindT hs).trans this
      · rw [if_neg (by decide), if_neg (by decide)]; exact (bindT hs).trans this
    · rw [if_neg hg, if_neg hg, if_neg hg, if_neg h4]
      split <;> rfl
  · rw [if_neg h3, if_neg h3, if_neg h3]
    by_cases h4 : x.kind = 4
    · rw [if_pos h4, if_pos h4, if_pos h4, bindT hbk, bindT hbk]
      by_cases hg : s116 x.r1 = true ∧ s116 x.r2 = true
      · rw [if_pos (hb2.2 hg), if_pos (hb2.2 hg), if_pos hg]
        rcases h.kind with ⟨rfl, rfl, rfl, rfl⟩ | ⟨rfl, rfl, rfl, rfl⟩ | ⟨rfl, rfl, rfl, rfl⟩ | ⟨rfl, rfl, rfl, rfl⟩
        · rw [if_pos rfl]
          exact kr hg (fun p q => k122_10 x p q) (fun _ _ => none) (fun p q => rfl)
        · rw [if_neg (by decide), if_pos rfl]
          exact kr hg (fun p q => k122_2 x 2 p q) (fun _ _ => none) (fun p q => rfl)
        · rw [if_neg (by decide), if_neg (by decide)]
          exact kr hg (fun p q => k122_2 x 3 p q) (fun _ _ => none) (fun p q => rfl)
        · rw [if_neg (by decide), if_neg (by decide)]
          exact kr hg (fun p q => k122_2 x 4 p q) (fun _ _ => none) (fun p q => rfl)
      · have : ¬ (blkS x.r1 x.r2).2 = true := fun q => hg (hb2.1 q)
        rw [if_neg this, if_neg this, if_neg hg]
        split <;> rfl
    · rw [if_neg h4, if_neg h4, if_neg h4]
      split <;> rfl
theorem s125_eq {l : List NodeT} {i : Nat} {x : NodeT} (hx : l[i]? = some x) : s125 l (i : Int) = some (l.set i s148) := by
  unfold s125
  rw [Int.toNat_natCast, hx]; rfl
/-- The program's node: a reference. -/
theorem s117_eq (h : Ed k a ins rows n) {l : List NodeT} {i : Nat} {x : NodeT} (hx : l[i]? = some x) (h3 : x.kind = 3) (hg : s116 x.r1 = true) : s117 (s95 k a) l (i : Int) = some (l.set i (mvN ins rows n a x)) := by
  have hb := rc_bd h hg
  have hr : (s95 k a).rows = rows := by rw [s95_eq h]
  have hn := h.n46
  have k0 : k117_0 (s95 k a) l (i : Int) x (getRC rows x.r1) = some (l.set i (mvN ins rows n a x)) := by
    unfold k117_0 mvN
    rw [if_pos h3, if_pos hg, bindT (s141_eq h (by omega) (by omega)), hr, Int.toNat_natCast]
    by_cases hq : lowP ins a (getRC rows x.r1) ≤ cutP n (highP ins a (getRC rows x.r1))
    · rw [if_pos (decide_eq_true hq), if_pos hq]
      unfold setRC
      cases rows <;> rfl
    · rw [if_neg (by simpa using hq), if_neg hq, bindT (s125_eq hx)]
  unfold s117
  rw [Int.toNat_natCast, hx, Option.bind_some, hr]
  unfold getRC at k0
  cases rows
  · exact k0
  · exact k0
theorem s118_eq (h : Ed k a ins rows n) {l : List NodeT} {i : Nat} {x : NodeT} (hx : l[i]? = some x) (h4 : x.kind = 4) (hg : s116 x.r1 = true ∧ s116 x.r2 = true) : s118 (s95 k a) l (i : Int) = some (l.set i (mvN ins rows n a x)) := by
  have hb1 := rc_bd h hg.1
  have hb2 := rc_bd h hg.2
  have hr : (s95 k a).rows = rows := by rw [s95_eq h]
  have hn := h.n46
  have k0 : ∀ p q : Int, ∀ b : Bool, k118_0 (s95 k a) l (i : Int) x p q b = some (l.set i (if b = true then { x with r1 := setRC rows x.r1 p, r2 := setRC rows x.r2 q } else s148)) := by
    intro p q b
    unfold k118_0
    rw [hr, Int.toNat_natCast]
    cases b
    · rw [if_neg (by decide), if_neg (by decide), bindT (s125_eq hx)]
    · rw [if_pos rfl, if_pos rfl]
      unfold setRC
      cases rows
      · simp only [Bool.false_eq_true, if_false, List.set_set]
      · simp only [if_true, List.set_set]
  have k1 : k118_1 (s95 k a) l (i : Int) x (getRC rows x.r1) (getRC rows x.r2) = some (l.set i (mvN ins rows n a x)) := by
    unfold k118_1 mvN
    rw [if_neg (by omega : ¬ x.kind = 3), if_pos h4, if_pos hg]
    by_cases hq : getRC rows x.r1 ≤ getRC rows x.r2
    · rw [if_pos hq, if_pos hq, bindT (s141_eq h (by omega) (by omega)), k0]
      by_cases hd : lowP ins a (getRC rows x.r1) ≤ cutP n (highP ins a (getRC rows x.r2))
      · rw [if_pos (decide_eq_true hd), if_pos hd]
      · rw [if_neg (by simpa using hd), if_neg hd]
    · rw [if_neg hq, if_neg hq, bindT (s141_eq h (by omega) (by omega)), k0]
      by_cases hd : lowP ins a (getRC rows x.r2) ≤ cutP n (highP ins a (getRC rows x.r1))
      · rw [if_pos (decide_eq_true hd), if_pos hd]
      · rw [if_neg (by simpa using hd), if_neg hd]
  unfold s118
  rw [Int.toNat_natCast, hx, Option.bind_some, hr]
  unfold getRC at k1
  cases rows
  · exact k1
  · exact k1
end
/-! ### Lists turned one by one -/
def part (φ : NodeT → NodeT) (ns : List NodeT) (i : Nat) : List NodeT := (ns.take i).map φ ++ ns.drop i
section
variable {φ : NodeT → NodeT} {ns : List NodeT} {i : Nat}
theorem part_0 : part φ ns 0 = ns := by unfold part; simp
theorem part_end : part φ ns ns.length = ns.map φ := by unfold part; simp
theorem part_len : (part φ ns i).length = ns.length := by
  unfold part
  rw [List.length_append, List.length_map, List.length_take, List.length_drop]; omega
theorem part_get (hi : i < ns.length) : (part φ ns i)[i]? = some (ns[i]'hi) := by
  unfold part
  rw [List.getElem?_append_right (by rw [List.length_map, List.length_take]; omega), List.length_map, List.length_take, Nat.min_eq_left (by omega), Nat.sub_self, List.getElem?_drop, Nat.add_zero, List.getElem?_eq_getElem hi]
theorem part_set (hi : i < ns.length) : (part φ ns i).set i (φ (ns[i]'hi)) = part φ ns (i + 1) := by
  unfold part
  rw [List.set_append_right _ _ (by rw [List.length_map, List.length_take]; omega), List.length_map, List.length_take, Nat.min_eq_left (by omega), Nat.sub_self, List.drop_eq_getElem_cons hi, List.set_cons_zero, List.take_succ_eq_append_getElem hi, List.map_append, List.append_assoc]
  rfl
theorem part_same (hi : i < ns.length) (h : φ (ns[i]'hi) = ns[i]'hi) : part φ ns i = part φ ns (i + 1) := by
  rw [← part_set hi, h]
  apply List.ext_getElem?
  intro j
  by_cases hj : j = i
  · subst hj
    rw [List.getElem?_set_self (by rw [part_len]; exact hi), part_get hi]
  · rw [List.getElem?_set_ne (fun e => hj e.symm)]
end
theorem s98_ok {k a : Int} {ins rows : Bool} {n : Int} (h : Ed k a ins rows n) {m : Nat} {ns : List NodeT} (hl : ns.length ≤ 24) : ∀ (r i g : Nat), i + r = ns.length → r < g → l98_3 m (s95 k a) ns.length g (i : Int) (part (mvN ins rows n a) ns i) = some (ns.map (mvN ins rows n a)) := by
  intro r
  induction r with
  | zero =>
    intro i g h1 h2
    obtain ⟨g, rfl⟩ : ∃ g', g = g' + 1 := ⟨g - 1, by omega⟩
    have : i = ns.length := by omega
    subst this
    show l98_3_st m (s95 k a) ns.length (l98_3 m (s95 k a) ns.length g) (ns.length : Int) _ = _
    unfold l98_3_st
    rw [if_neg (by omega), part_end]
  | succ r ih =>
    intro i g h1 h2
    obtain ⟨g, rfl⟩ : ∃ g', g = g' + 1 := ⟨g - 1, by omega⟩
    have hi : i < ns.length := by omega
    have hx := part_get (φ := mvN ins rows n a) hi
    have next : k98_2 (i : Int) (l98_3 m (s95 k a) ns.length g) (part (mvN ins rows n a) ns (i + 1)) = some (ns.map (mvN ins rows n a)) := by
      unfold k98_2
      rw [ckF (by constructor <;> omega)]
      exact ih (i + 1) g (by omega) (by omega)
    have hset := part_set (φ := mvN ins rows n a) hi
    show l98_3_st m (s95 k a) ns.length (l98_3 m (s95 k a) ns.length g) (i : Int) _ = _
    unfold l98_3_st
    rw [if_pos (by omega), bindT (getT (x := ns[i]'hi) (by omega) (by omega) (by rw [Int.toNat_natCast]; exact hx))]
    by_cases h3 : (ns[i]'hi).kind = 3
    · rw [if_pos h3]
      by_cases hg : s116 (ns[i]'hi).r1 = true
      · rw [if_pos hg, bindT (s117_eq h hx h3 hg), hset]; exact next
      · rw [if_neg hg]
        have : mvN ins rows n a (ns[i]'hi) = ns[i]'hi := by unfold mvN; rw [if_pos h3, if_neg hg]
        rw [part_same hi this]; exact next
    · rw [if_neg h3]
      by_cases h4 : (ns[i]'hi).kind = 4
      · rw [if_pos h4]
        by_cases hg : s116 (ns[i]'hi).r1 = true ∧ s116 (ns[i]'hi).r2 = true
        · rw [if_pos hg.1, if_pos hg.2, bindT (s118_eq h hx h4 hg), hset]; exact next
        · have : mvN ins rows n a (ns[i]'hi) = ns[i]'hi := by unfold mvN; rw [if_neg h3, if_pos h4, if_neg hg]
          by_cases hg1 : s116 (ns[i]'hi).r1 = true
          · rw [if_pos hg1, if_neg (fun q => hg ⟨hg1, q⟩), part_same hi this]; exact next
          · rw [if_neg hg1, part_same hi this]; exact next
      · have : mvN ins rows n a (ns[i]'hi) = ns[i]'hi := by unfold mvN; rw [if_neg h3, if_neg h4]
        rw [if_neg h4, part_same hi this]; exact next
theorem s103_ok {k a : Int} {ins rows : Bool} {n : Int} (h : Ed k a ins rows n) {m : Nat} (hm : 100 ≤ m) (t : TreeV) (hl : t.nodes.length ≤ 24) (h0 : 0 < t.nodes.length) : s103 m t k a = some ⟨t.nodes.map (mvN ins rows n a), t.root, 0, 0⟩ := by
  have loop : ∀ (r i g : Nat), i + r = t.nodes.length → r < g → l103_0 m t k a t.nodes g (i : Int) (part (mvN ins rows n a) t.nodes i) = some ⟨t.nodes.map (mvN ins rows n a), t.root, 0, 0⟩ := by
    intro r
    induction r with
    | zero =>
      intro i g h1 h2
      obtain ⟨g, rfl⟩ : ∃ g', g = g' + 1 := ⟨g - 1, by omega⟩
      have : i = t.nodes.length := by omega
      subst this
      show l103_0_st m t k a t.nodes (l103_0 m t k a t.nodes g) (t.nodes.length : Int) _ = _
      unfold l103_0_st
      rw [if_neg (by omega), part_end, ckF (by rw [List.length_map])]
    | succ r ih =>
      intro i g h1 h2
      obtain ⟨g, rfl⟩ : ∃ g', g = g' + 1 := ⟨g - 1, by omega⟩
      have hi : i < t.nodes.length := by omega
      have hx := part_get (φ := mvN ins rows n a) hi
      show l103_0_st m t k a t.nodes (l103_0 m t k a t.nodes g) (i : Int) _ = _
      unfold l103_0_st
      rw [if_pos (by omega), bindT (getT (x := t.nodes[i]'hi) (by omega) (by omega) (by rw [Int.toNat_natCast]; exact hx)), bindT (s122_eq h hm _), ckF (by constructor <;> omega), Int.toNat_natCast, part_set hi]
      exact ih (i + 1) g (by omega) (by omega)
  unfold s103
  have h121 : s121 t.nodes t.nodes.length = some t.nodes := by
    unfold s121
    rw [if_neg (by omega), ckF (by omega), List.take_length]
  rw [bindT h121, ckF h0]
  have := loop t.nodes.length 0 m (by omega) (by omega)
  rw [part_0] at this
  exact this
end Go.Proofs.Qxb6500272aGreat
