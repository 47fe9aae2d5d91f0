/-
  Plain laws, edits: copied nodes; turned trees stay lawful.
-/
import Derived.Test.Qxb6500272aGreatE1
namespace Go.Proofs.Qxb6500272aGreat
open Go
set_option linter.unusedVariables false
set_option linter.unusedSimpArgs false
def slR (dc dr : Int) (r : RefT) : RefT := { r with col := if r.ac = true then r.col else r.col + dc, row := if r.ar = true then r.row else r.row + dr }
abbrev okR (r : RefT) : Prop := 0 ≤ r.col ∧ r.col ≤ 25 ∧ 0 ≤ r.row ∧ r.row ≤ 98
def cpN (dc dr : Int) (x : NodeT) : NodeT :=
  if x.kind = 3 then (if okR (slR dc dr x.r1) then { x with r1 := slR dc dr x.r1 } else s148)
  else if x.kind = 4 then (if okR (slR dc dr x.r1) ∧ okR (slR dc dr x.r2) then { x with r1 := slR dc dr x.r1, r2 := slR dc dr x.r2 } else s148)
  else x
def Sm (d : Int) : Prop := -100 ≤ d ∧ d ≤ 100
section
variable {dc dr : Int}
theorem s152_eq (hc : Sm dc) (hr : Sm dr) {r : RefT} (hb : RB1 r) : s152 r dc dr = some (slR dc dr r, decide (okR (slR dc dr r))) := by
  obtain ⟨b1, b2, b3, b4⟩ := hb
  obtain ⟨c1, c2⟩ := hc
  obtain ⟨d1, d2⟩ := hr
  have k4 : ∀ t : RefT, k152_4 t = some (t, decide (okR t)) := by
    intro t
    unfold k152_4
    by_cases h1 : 0 ≤ t.col
    · rw [if_pos h1]
      by_cases h2 : t.col ≤ 25
      · rw [if_pos h2]
        by_cases h3 : 0 ≤ t.row
        · rw [if_pos h3]
          simp [h1, h2, h3]
        · rw [if_neg h3]; simp [h3]
      · rw [if_neg h2]; simp [h2]
    · rw [if_neg h1]; simp [h1]
  have k5 : ∀ t : RefT, t.row = r.row → t.ar = r.ar → k152_5 dr t = some ({ t with row := if r.ar = true then r.row else r.row + dr }, decide (okR { t with row := if r.ar = true then r.row else r.row + dr })) := by
    intro t h1 h2
    unfold k152_5
    by_cases ha : r.ar = true
    · rw [if_pos (by rw [h2]; exact ha), if_pos ha, k4]
      rw [show ({ t with row := r.row } : RefT) = t by rw [← h1]]
    · rw [if_neg (by rw [h2]; exact ha), if_neg ha, ckF (by rw [h1]; constructor <;> omega), k4, h1]
  unfold s152 slR
  by_cases ha : r.ac = true
  · rw [if_pos ha, if_pos ha, k5 r rfl rfl]
  · rw [if_neg ha, if_neg ha, ckF (by constructor <;> omega), k5 { r with col := r.col + dc } rfl rfl]
theorem s126_eq (hc : Sm dc) (hr : Sm dr) {x : NodeT} (hb : RB x) : s126 x dc dr = some (cpN dc dr x) := by
  unfold s126 cpN
  by_cases h3 : x.kind = 3
  · rw [if_pos h3, if_pos h3, bindT (s152_eq hc hr hb.1), if_neg (by omega)]
    unfold k126_1
    by_cases ho : okR (slR dc dr x.r1)
    · rw [if_pos (by simpa using ho), if_pos rfl, if_pos ho]
    · rw [if_neg (by simpa using ho), if_neg ho]
  · rw [if_neg h3, if_neg h3]
    by_cases h4 : x.kind = 4
    · rw [if_pos h4, if_pos h4, bindT (s152_eq hc hr hb.1), bindT (s152_eq hc hr hb.2)]
      unfold k126_1
      by_cases ho : okR (slR dc dr x.r1)
      · rw [if_pos (by simpa using ho)]
        by_cases ho2 : okR (slR dc dr x.r2)
        · rw [if_pos (by simpa using ho2), if_pos ⟨ho, ho2⟩]
        · rw [if_neg (by simpa using ho2), if_neg (fun q => ho2 q.2)]
      · rw [if_neg (by simpa using ho), if_neg (fun q => ho q.1)]
    · rw [if_neg h4, if_neg h4]
theorem set_same {l : List NodeT} {i : Nat} {x : NodeT} (h : l[i]? = some x) : l.set i x = l := by
  apply List.ext_getElem?
  intro j
  by_cases hj : j = i
  · subst hj
    rw [List.getElem?_set_self (List.getElem?_eq_some_iff.1 h).1, h]
  · rw [List.getElem?_set_ne (fun e => hj e.symm)]
theorem s124_5_eq (hc : Sm dc) (hr : Sm dr) {l : List NodeT} {i : Nat} {x : NodeT} (hb : RB1 x.r1) (hx : l[i]? = some x) : s124_5 l (i : Int) dc dr = some (l.set i { x with r1 := slR dc dr x.r1 }, decide (okR (slR dc dr x.r1))) := by
  obtain ⟨b1, b2, b3, b4⟩ := hb
  obtain ⟨c1, c2⟩ := hc
  obtain ⟨d1, d2⟩ := hr
  have hi := (List.getElem?_eq_some_iff.1 hx).1
  have k4 : ∀ (l : List NodeT) (t : NodeT), l[i]? = some t → k124_5_4 (i : Int) l = some (l, decide (okR t.r1)) := by
    intro l t ht
    unfold k124_5_4
    rw [Int.toNat_natCast, ht, Option.bind_some]
    by_cases h1 : t.r1.col < 0
    · rw [if_pos h1, decide_eq_false (show ¬ okR t.r1 from fun q => by have := q.1; omega)]
    · rw [if_neg h1]
      by_cases h2 : 25 < t.r1.col
      · rw [if_pos h2, decide_eq_false (show ¬ okR t.r1 from fun q => by have := q.2.1; omega)]
      · rw [if_neg h2]
        by_cases h3 : 0 ≤ t.r1.row
        · rw [if_pos h3]
          have : 0 ≤ t.r1.col := by omega
          have : t.r1.col ≤ 25 := by omega
          simp [*]
        · rw [if_neg h3]; simp [h3]
  have k5 : ∀ (l : List NodeT) (t : NodeT), l[i]? = some t → t.r1.row = x.r1.row → t.r1.ar = x.r1.ar → k124_5_5 (i : Int) dr l = some (l.set i { t with r1 := { t.r1 with row := if x.r1.ar = true then x.r1.row else x.r1.row + dr } }, decide (okR { t.r1 with row := if x.r1.ar = true then x.r1.row else x.r1.row + dr })) := by
    intro l t ht h1 h2
    unfold k124_5_5
    rw [Int.toNat_natCast, ht, Option.bind_some]
    by_cases ha : x.r1.ar = true
    · rw [if_pos (by rw [h2]; exact ha), if_pos ha, k4 l t ht]
      have e2 : ({ t.r1 with row := x.r1.row } : RefT) = t.r1 := by rw [← h1]
      rw [e2, set_same ht]
    · rw [if_neg (by rw [h2]; exact ha), if_neg ha, ckF (by rw [h1]; constructor <;> omega), h1]
      exact k4 _ _ (List.getElem?_set_self (List.getElem?_eq_some_iff.1 ht).1)
  unfold s124_5 slR
  rw [Int.toNat_natCast, hx, Option.bind_some]
  by_cases ha : x.r1.ac = true
  · rw [if_pos ha, if_pos ha, k5 l x hx rfl rfl]
  · rw [if_neg ha, if_neg ha, ckF (by constructor <;> omega)]
    rw [k5 _ { x with r1 := { x.r1 with col := x.r1.col + dc } } (List.getElem?_set_self hi) rfl rfl, List.set_set]
theorem s124_9_eq (hc : Sm dc) (hr : Sm dr) {l : List NodeT} {i : Nat} {x : NodeT} (hb : RB1 x.r2) (hx : l[i]? = some x) : s124_9 l (i : Int) dc dr = some (l.set i { x with r2 := slR dc dr x.r2 }, decide (okR (slR dc dr x.r2))) := by
  obtain ⟨b1, b2, b3, b4⟩ := hb
  obtain ⟨c1, c2⟩ := hc
  obtain ⟨d1, d2⟩ := hr
  have hi := (List.getElem?_eq_some_iff.1 hx).1
  have k4 : ∀ (l : List NodeT) (t : NodeT), l[i]? = some t → k124_9_4 (i : Int) l = some (l, decide (okR t.r2)) := by
    intro l t ht
    unfold k124_9_4
    rw [Int.toNat_natCast, ht, Option.bind_some]
    by_cases h1 : t.r2.col < 0
    · rw [if_pos h1, decide_eq_false (show ¬ okR t.r2 from fun q => by have := q.1; omega)]
    · rw [if_neg h1]
      by_cases h2 : 25 < t.r2.col
      · rw [if_pos h2, decide_eq_false (show ¬ okR t.r2 from fun q => by have := q.2.1; omega)]
      · rw [if_neg h2]
        by_cases h3 : 0 ≤ t.r2.row
        · rw [if_pos h3]
          have : 0 ≤ t.r2.col := by omega
          have : t.r2.col ≤ 25 := by omega
          simp [*]
        · rw [if_neg h3]; simp [h3]
  have k5 : ∀ (l : List NodeT) (t : NodeT), l[i]? = some t → t.r2.row = x.r2.row → t.r2.ar = x.r2.ar → k124_9_5 (i : Int) dr l = some (l.set i { t with r2 := { t.r2 with row := if x.r2.ar = true then x.r2.row else x.r2.row + dr } }, decide (okR { t.r2 with row := if x.r2.ar = true then x.r2.row else x.r2.row + dr })) := by
    intro l t ht h1 h2
    unfold k124_9_5
    rw [Int.toNat_natCast, ht, Option.bind_some]
    by_cases ha : x.r2.ar = true
    · rw [if_pos (by rw [h2]; exact ha), if_pos ha, k4 l t ht]
      have e2 : ({ t.r2 with row := x.r2.row } : RefT) = t.r2 := by rw [← h1]
      rw [e2, set_same ht]
    · rw [if_neg (by rw [h2]; exact ha), if_neg ha, ckF (by rw [h1]; constructor <;> omega), h1]
      exact k4 _ _ (List.getElem?_set_self (List.getElem?_eq_some_iff.1 ht).1)
  unfold s124_9 slR
  rw [Int.toNat_natCast, hx, Option.bind_some]
  by_cases ha : x.r2.ac = true
  · rw [if_pos ha, if_pos ha, k5 l x hx rfl rfl]
  · rw [if_neg ha, if_neg ha, ckF (by constructor <;> omega)]
    rw [k5 _ { x with r2 := { x.r2 with col := x.r2.col + dc } } (List.getElem?_set_self hi) rfl rfl, List.set_set]
theorem s105_ok (hc : Sm dc) (hr : Sm dr) {m : Nat} {ns : List NodeT} (hb : Bd ns) : ∀ (r i g : Nat), i + r = ns.length → r < g → l105_3 m ns.length dc dr g (i : Int) (part (cpN dc dr) ns i) = some (ns.map (cpN dc dr)) := by
  have hl := hb.1
  intro r
  induction r with
  | zero =>
    intro i g h1 h2
    obtain ⟨g, rfl⟩ : ∃ g', g = g' + 1 := ⟨g - 1, by omega⟩
    have : i = ns.length := by omega
    subst this
    show l105_3_st m ns.length dc dr (l105_3 m ns.length dc dr g) (ns.length : Int) _ = _
    unfold l105_3_st
    rw [if_neg (by omega), part_end]
  | succ r ih =>
    intro i g h1 h2
    obtain ⟨g, rfl⟩ : ∃ g', g = g' + 1 := ⟨g - 1, by omega⟩
    have hi : i < ns.length := by omega
    have hx := part_get (φ := cpN dc dr) hi
    have hrb := hb.2 _ (List.getElem_mem hi)
    have hset := part_set (φ := cpN dc dr) hi
    have hpl : i < (part (cpN dc dr) ns i).length := by rw [part_len]; exact hi
    have next : k105_2 (i : Int) (l105_3 m ns.length dc dr g) (part (cpN dc dr) ns (i + 1)) = some (ns.map (cpN dc dr)) := by
      unfold k105_2
      rw [ckF (by constructor <;> omega)]
      exact ih (i + 1) g (by omega) (by omega)
    show l105_3_st m ns.length dc dr (l105_3 m ns.length dc dr g) (i : Int) _ = _
    unfold l105_3_st
    rw [if_pos (by omega), bindT (getT (x := ns[i]'hi) (by omega) (by omega) (by rw [Int.toNat_natCast]; exact hx))]
    generalize hX : ns[i]'hi = x at *
    by_cases h3 : x.kind = 3
    · rw [if_pos h3, bindT (s124_5_eq hc hr hrb.1 hx)]
      by_cases ho : okR (slR dc dr x.r1)
      · rw [if_pos (by simpa using ho)]
        have e : cpN dc dr x = { x with r1 := slR dc dr x.r1 } := by unfold cpN; rw [if_pos h3, if_pos ho]
        rw [← e, hset]; exact next
      · rw [if_neg (by simpa using ho), bindT (s125_eq (List.getElem?_set_self hpl))]
        have e : cpN dc dr x = s148 := by unfold cpN; rw [if_pos h3, if_neg ho]
        rw [List.set_set, ← e, hset]; exact next
    · rw [if_neg h3]
      by_cases h4 : x.kind = 4
      · rw [if_pos h4, bindT (s124_5_eq hc hr hrb.1 hx)]
        rw [bindT (s124_9_eq (x := { x with r1 := slR dc dr x.r1 }) hc hr hrb.2 (List.getElem?_set_self hpl))]
        have hkill : ∀ y : NodeT, s125 (List.set (List.set (part (cpN dc dr) ns i) i { x with r1 := slR dc dr x.r1 }) i y) (i : Int) = some ((part (cpN dc dr) ns i).set i s148) := by
          intro y
          rw [s125_eq (x := y) (List.getElem?_set_self (by rw [List.length_set]; exact hpl)), List.set_set, List.set_set]
        by_cases ho : okR (slR dc dr x.r1)
        · rw [if_pos (by simpa using ho)]
          by_cases ho2 : okR (slR dc dr x.r2)
          · rw [if_pos (by simpa using ho2)]
            have e : cpN dc dr x = { x with r1 := slR dc dr x.r1, r2 := slR dc dr x.r2 } := by unfold cpN; rw [if_neg h3, if_pos h4, if_pos ⟨ho, ho2⟩]
            simp only [List.set_set]
            rw [← e, hset]; exact next
          · rw [if_neg (by simpa using ho2), bindT (hkill _)]
            have e : cpN dc dr x = s148 := by unfold cpN; rw [if_neg h3, if_pos h4, if_neg (fun q => ho2 q.2)]
            rw [← e, hset]; exact next
        · rw [if_neg (by simpa using ho), bindT (hkill _)]
          have e : cpN dc dr x = s148 := by unfold cpN; rw [if_neg h3, if_pos h4, if_neg (fun q => ho q.1)]
          rw [← e, hset]; exact next
      · have e : cpN dc dr x = x := by unfold cpN; rw [if_neg h3, if_neg h4]
        rw [if_neg h4, part_same hi (by rw [hX]; exact e)]; exact next
theorem s106_ok (hc : Sm dc) (hr : Sm dr) {m : Nat} (hm : 100 ≤ m) (t : TreeV) (hb : Bd t.nodes) (h0 : 0 < t.nodes.length) : s106 m t dc dr = some ⟨t.nodes.map (cpN dc dr), t.root, 0, 0⟩ := by
  have hl := hb.1
  have loop : ∀ (r i g : Nat), i + r = t.nodes.length → r < g → l106_0 m t dc dr t.nodes g (i : Int) (part (cpN dc dr) t.nodes i) = some ⟨t.nodes.map (cpN dc dr), t.root, 0, 0⟩ := by
    intro r
    induction r with
    | zero =>
      intro i g h1 h2
      obtain ⟨g, rfl⟩ : ∃ g', g = g' + 1 := ⟨g - 1, by omega⟩
      have : i = t.nodes.length := by omega
      subst this
      show l106_0_st m t dc dr t.nodes (l106_0 m t dc dr t.nodes g) (t.nodes.length : Int) _ = _
      unfold l106_0_st
      rw [if_neg (by omega), part_end, ckF (by rw [List.length_map])]
    | succ r ih =>
      intro i g h1 h2
      obtain ⟨g, rfl⟩ : ∃ g', g = g' + 1 := ⟨g - 1, by omega⟩
      have hi : i < t.nodes.length := by omega
      have hx := part_get (φ := cpN dc dr) hi
      have hrb := hb.2 _ (List.getElem_mem hi)
      show l106_0_st m t dc dr t.nodes (l106_0 m t dc dr t.nodes g) (i : Int) _ = _
      unfold l106_0_st
      rw [if_pos (by omega), bindT (getT (x := t.nodes[i]'hi) (by omega) (by omega) (by rw [Int.toNat_natCast]; exact hx)), bindT (s126_eq hc hr hrb), ckF (by constructor <;> omega), Int.toNat_natCast, part_set hi]
      exact ih (i + 1) g (by omega) (by omega)
  unfold s106
  have h121 : s121 t.nodes t.nodes.length = some t.nodes := by
    unfold s121
    rw [if_neg (by omega), ckF (by omega), List.take_length]
  rw [bindT h121, ckF h0]
  have := loop t.nodes.length 0 m (by omega) (by omega)
  rw [part_0] at this
  exact this
end
/-! ### Turned trees -/
structure Phi (φ : NodeT → NodeT) : Prop where
  same : ∀ x, x.kind ≠ 3 → x.kind ≠ 4 → φ x = x
  k3 : ∀ x, x.kind = 3 → x = s210 x → ((φ x).kind = 3 ∨ (φ x).kind = 5) ∧ φ x = s210 (φ x)
  k4 : ∀ x, x.kind = 4 → x = s210 x → ((φ x).kind = 4 ∨ (φ x).kind = 5) ∧ φ x = s210 (φ x)
  rb : ∀ x, RB x → RB (φ x)
theorem Lw.map {φ : NodeT → NodeT} (hφ : Phi φ) {ns : List NodeT} {k : Option Int} {r : Bool} {lo v : Nat} (h : Lw ns k r lo v) : Lw (ns.map φ) k r lo v := by
  have get : ∀ {v : Nat} {x : NodeT}, ns[v]? = some x → (ns.map φ)[v]? = some (φ x) := by
    intro v x h
    rw [List.getElem?_map, h]; rfl
  have get' : ∀ {v : Nat} {x : NodeT}, ns[v]? = some x → x.kind ≠ 3 → x.kind ≠ 4 → (ns.map φ)[v]? = some x := by
    intro v x h h3 h4
    rw [get h, hφ.same x h3 h4]
  induction h using Lw.ind with
  | num h1 h2 h3 h4 h5 => exact .num (get' h1 (by omega) (by omega)) h2 h3 h4 h5
  | tru h1 h2 h3 h4 h5 => exact .tru (get' h1 (by omega) (by omega)) h2 h3 h4 h5
  | ref h1 h2 h3 =>
    obtain ⟨p1, p2⟩ := hφ.k3 _ h3 h2
    rcases p1 with p1 | p1
    · exact .ref (get h1) p2 p1
    · exact .err (get h1) p2 p1
  | err h1 h2 h3 => exact .err (get' h1 (by omega) (by omega)) h2 h3
  | rng h1 h2 h3 =>
    obtain ⟨p1, p2⟩ := hφ.k4 _ h3 h2
    rcases p1 with p1 | p1
    · exact .rng (get h1) p2 p1
    · exact .err (get h1) p2 p1
  | neg h1 h2 h3 h4 _ ih => exact .neg (get' h1 (by omega) (by omega)) h2 h3 h4 ih
  | bin h1 h2 h3 h4 h5 h6 h7 _ _ ih1 ih2 => exact .bin (get' h1 (by omega) (by omega)) h2 h3 h4 h5 h6 h7 ih1 ih2
  | call h1 h2 h3 h4 h5 _ ih => exact .call (get' h1 (by omega) (by omega)) h2 h3 h4 h5 ih
  | one h1 h2 h3 h4 h5 _ ih => exact .one (get' h1 (by omega) (by omega)) h2 h3 h4 h5 ih
  | more h1 h2 h3 h4 h5 h6 _ _ ih1 ih2 => exact .more (get' h1 (by omega) (by omega)) h2 h3 h4 h5 h6 ih1 ih2
theorem TreeOK.map {φ : NodeT → NodeT} (hφ : Phi φ) {t : TreeV} (h : TreeOK t) : TreeOK ⟨t.nodes.map φ, t.root, 0, 0⟩ := by
  obtain ⟨w, e1, e2, e3⟩ := h.lw
  refine ⟨rfl, rfl, ⟨by show (t.nodes.map φ).length ≤ 24; rw [List.length_map]; exact h.bd.1, fun x hx => ?_⟩, w, e1, by show w + 1 = (t.nodes.map φ).length; rw [List.length_map]; exact e2, e3.map hφ⟩
  obtain ⟨y, h1, rfl⟩ := List.mem_map.1 hx
  exact hφ.rb y (h.bd.2 y h1)
theorem s148_n : s148.kind = 5 ∧ s148 = s210 s148 := ⟨rfl, rfl⟩
theorem nf3 {x : NodeT} (h3 : x.kind = 3) (h : x = s210 x) (r : RefT) : ({ x with r1 := r } : NodeT).kind = 3 ∧ ({ x with r1 := r } : NodeT) = s210 { x with r1 := r } := by
  refine ⟨h3, ?_⟩
  obtain ⟨k, o, a, b, n, r1, r2⟩ := x
  simp only at h3
  subst h3
  have h : (⟨3, o, a, b, n, r1, r2⟩ : NodeT) = ⟨3, 0, -1, -1, 0, r1, ⟨0, 0, false, false⟩⟩ := h
  injection h with _ h1 h2 h3 h4 _ h6
  subst h1; subst h2; subst h3; subst h4; subst h6
  rfl
theorem nf4 {x : NodeT} (h3 : x.kind = 4) (h : x = s210 x) (r r' : RefT) : ({ x with r1 := r, r2 := r' } : NodeT).kind = 4 ∧ ({ x with r1 := r, r2 := r' } : NodeT) = s210 { x with r1 := r, r2 := r' } := by
  refine ⟨h3, ?_⟩
  obtain ⟨k, o, a, b, n, r1, r2⟩ := x
  simp only at h3
  subst h3
  have h : (⟨4, o, a, b, n, r1, r2⟩ : NodeT) = ⟨4, 0, -1, -1, 0, r1, r2⟩ := h
  injection h with _ h1 h2 h3 h4 _ h6
  subst h1; subst h2; subst h3; subst h4
  rfl
theorem RB_148 : RB s148 := ⟨RB1_0, RB1_0⟩
theorem cpN_phi (dc dr : Int) : Phi (cpN dc dr) := by
  refine ⟨fun x h3 h4 => ?_, fun x h3 hn => ?_, fun x h4 hn => ?_, fun x hx => ?_⟩
  · unfold cpN; rw [if_neg h3, if_neg h4]
  · unfold cpN
    rw [if_pos h3]
    split
    · obtain ⟨p1, p2⟩ := nf3 h3 hn (slR dc dr x.r1)
      exact ⟨Or.inl p1, p2⟩
    · exact ⟨Or.inr rfl, rfl⟩
  · unfold cpN
    rw [if_neg (by omega), if_pos h4]
    split
    · obtain ⟨p1, p2⟩ := nf4 h4 hn (slR dc dr x.r1) (slR dc dr x.r2)
      exact ⟨Or.inl p1, p2⟩
    · exact ⟨Or.inr rfl, rfl⟩
  · unfold cpN
    split
    · split
      · rename_i ho; exact ⟨ho, hx.2⟩
      · exact RB_148
    · split
      · split
        · rename_i ho; exact ⟨ho.1, ho.2⟩
        · exact RB_148
      · exact hx
theorem mvN_phi {k a : Int} {ins rows : Bool} {n : Int} (h : Ed k a ins rows n) : Phi (mvN ins rows n a) := by
  have ha := h.at_
  refine ⟨fun x h3 h4 => ?_, fun x h3 hn => ?_, fun x h4 hn => ?_, fun x hx => ?_⟩
  · unfold mvN; rw [if_neg h3, if_neg h4]
  · unfold mvN
    rw [if_pos h3]
    split
    · split
      · obtain ⟨p1, p2⟩ := nf3 h3 hn (setRC rows x.r1 (lowP ins a (getRC rows x.r1)))
        exact ⟨Or.inl p1, p2⟩
      · exact ⟨Or.inr rfl, rfl⟩
    · exact ⟨Or.inl h3, hn⟩
  · unfold mvN
    rw [if_neg (by omega), if_pos h4]
    split
    · split
      · split
        · obtain ⟨p1, p2⟩ := nf4 h4 hn (setRC rows x.r1 (lowP ins a (getRC rows x.r1))) (setRC rows x.r2 (cutP n (highP ins a (getRC rows x.r2))))
          exact ⟨Or.inl p1, p2⟩
        · exact ⟨Or.inr rfl, rfl⟩
      · split
        · obtain ⟨p1, p2⟩ := nf4 h4 hn (setRC rows x.r1 (cutP n (highP ins a (getRC rows x.r1)))) (setRC rows x.r2 (lowP ins a (getRC rows x.r2)))
          exact ⟨Or.inl p1, p2⟩
        · exact ⟨Or.inr rfl, rfl⟩
    · exact ⟨Or.inl h4, hn⟩
  · have hn := h.n46
    have sb : ∀ {r : RefT} {p : Int}, RB1 r → 0 ≤ p → p ≤ 10 → RB1 (setRC rows r p) := by
      intro r p ⟨b1, b2, b3, b4⟩ h0 h1
      unfold setRC
      cases rows
      · exact ⟨h0, by show p ≤ 25; omega, b3, b4⟩
      · exact ⟨b1, b2, h0, by show p ≤ 98; omega⟩
    have lb : ∀ {p : Int}, 0 ≤ p → p < n → 0 ≤ lowP ins a p ∧ lowP ins a p ≤ 10 := by
      intro p h0 h1
      unfold lowP
      repeat' split
      all_goals omega
    have cb : ∀ {p : Int}, p < n → cutP n (highP ins a p) ≤ 10 := by
      intro p h1
      unfold cutP
      split <;> omega
    unfold mvN
    split
    · split
      · rename_i hg
        have := rc_bd h hg
        have := lb this.1 this.2
        split
        · exact ⟨sb hx.1 this.1 this.2, hx.2⟩
        · exact RB_148
      · exact hx
    · split
      · split
        · rename_i hg
          have h1 := rc_bd h hg.1
          have h2 := rc_bd h hg.2
          have l1 := lb h1.1 h1.2
          have l2 := lb h2.1 h2.2
          have c1 := cb h1.2
          have c2 := cb h2.2
          split
          · split
            · exact ⟨sb hx.1 l1.1 l1.2, sb hx.2 (by omega) c2⟩
            · exact RB_148
          · split
            · exact ⟨sb hx.1 (by omega) c1, sb hx.2 l2.1 l2.2⟩
            · exact RB_148
        · exact hx
      · exact hx
end Go.Proofs.Qxb6500272aGreat
