/-
  Plain laws, printing: the tree's text: the program's filling from the end and the model's show.
-/
import Derived.Test.Qxb6500272aGreatP1
namespace Go.Proofs.Qxb6500272aGreat
open Go
set_option linter.unusedVariables false
set_option linter.unusedSimpArgs false
def leafT (x : NodeT) : List UInt8 :=
  if x.kind = 1 then dg x.n.toNat else if x.kind = 2 then (if x.n = 1 then [84, 82, 85, 69] else [70, 65, 76, 83, 69]) else if x.kind = 3 then rT x.r1 else if x.kind = 4 then rT x.r1 ++ ([58] ++ rT x.r2) else [35, 35]
def bq (b : Bool) (t : List UInt8) : List UInt8 := if b = true then [40] ++ (t ++ [41]) else t
def nt' (S : FoS) (N : List NoteT) : FoS := { S with notes := N }
theorem s190_bd (x : NodeT) : 1 ≤ s190 x ∧ s190 x ≤ 5 := by
  unfold s190
  repeat' split
  all_goals omega
theorem bq_len (b : Bool) (t : List UInt8) : (bq b t).length ≤ t.length + 2 := by
  unfold bq
  split <;> simp
/-- How a node is filled: its text is laid, the climb goes on from it. -/
def Fill (n : Nat) (ns : List NodeT) (lo v : Nat) (p5 : Prop) (t : List UInt8) : Prop :=
  ∀ (m : Nat) (S : FoS) (up : Int) (brk : Bool), S.notes.length = 24 → S.notes[v]? = some ⟨up, brk⟩ → (brk = true → ¬ p5) → Room S (bq brk t).length →
    ∃ (N : List NoteT) (j : Nat), N.length = 24 ∧ (∀ i, (i < lo ∨ v ≤ i) → N[i]? = S.notes[i]?) ∧ j ≤ v - lo ∧
      l143_7 n ns ns.length (m + (v - lo) + 1) (v : Int) S = (l185_2 n ns ns.length (n - j) (v : Int) (pre (nt' S N) (bq brk t))).bind (fun r => k143_2 (lo : Int) (l143_7 n ns ns.length m) r)
theorem Room.nt {S : FoS} {k : Nat} (h : Room S k) (N : List NoteT) : Room (nt' S N) k := ⟨h.out, h.lo, h.hi⟩
theorem s183_ok {S : FoS} {ns : List NodeT} {c : Nat} {p z : Int} {y : NodeT} (hl : S.notes.length = 24) (hns : ns.length ≤ 24) (hy : ns[c]? = some y) : s183 S ns ns.length (c : Int) p z = some (nt' S (S.notes.set c ⟨p, decide (s190 y < z)⟩)) := by
  have hc : c < ns.length := by
    rcases Nat.lt_or_ge c ns.length with h2 | h2
    · exact h2
    · rw [List.getElem?_eq_none h2] at hy; cases hy
  unfold s183
  rw [bindT (getT (x := y) (by omega) (by omega) (by rw [Int.toNat_natCast]; exact hy))]
  have k0 : ∀ q : Int, k183_0 S (c : Int) p z q = some (nt' S (S.notes.set c ⟨p, decide (q < z)⟩)) := by
    intro q
    unfold k183_0
    rw [bindT (getT (x := S.notes[c]'(by omega)) (by omega) (by omega) (by rw [Int.toNat_natCast]; exact List.getElem?_eq_getElem (by omega))), Int.toNat_natCast]
    rfl
  unfold s190
  by_cases h6 : y.kind = 6
  · rw [if_pos h6, if_pos h6]; exact k0 4
  · rw [if_neg h6, if_neg h6]
    by_cases h7 : y.kind = 7
    · rw [if_pos h7, if_pos h7]
      exact k0 (s169 y.op)
    · rw [if_neg h7, if_neg h7]; exact k0 5
/-- The first step at a node: its closing bracket, if it has one. -/
theorem fill_step {n : Nat} {ns : List NodeT} {v : Nat} {x : NodeT} {S : FoS} {up : Int} {brk : Bool} (g : Nat) (hns : ns.length ≤ 24) (hx : ns[v]? = some x) (hl : S.notes.length = 24) (hv : S.notes[v]? = some ⟨up, brk⟩) (hr : Room S (if brk = true ∨ x.kind = 8 then 1 else 0)) :
    l143_7 n ns ns.length (g + 1) (v : Int) S = k143_6 n ns ns.length (v : Int) (l143_7 n ns ns.length g) x (if brk = true ∨ x.kind = 8 then pre S [41] else S) := by
  have hc : v < ns.length := by
    rcases Nat.lt_or_ge v ns.length with h2 | h2
    · exact h2
    · rw [List.getElem?_eq_none h2] at hx; cases hx
  show l143_7_st n ns ns.length (l143_7 n ns ns.length g) (v : Int) S = _
  unfold l143_7_st
  rw [if_pos (by omega), bindT (getT (x := x) (by omega) (by omega) (by rw [Int.toNat_natCast]; exact hx)), bindT (getT (x := ⟨up, brk⟩) (by omega) (by omega) (by rw [Int.toNat_natCast]; exact hv))]
  by_cases hb : brk = true
  · have ho : brk = true ∨ x.kind = 8 := Or.inl hb
    rw [if_pos ho] at hr
    rw [if_pos (show (⟨up, brk⟩ : NoteT).brk = true from hb), bindT (s182_i hr 41 41 rfl), if_pos ho]
  · rw [if_neg (show ¬ (⟨up, brk⟩ : NoteT).brk = true from hb)]
    by_cases h8 : x.kind = 8
    · have ho : brk = true ∨ x.kind = 8 := Or.inr h8
      rw [if_pos ho] at hr
      rw [if_pos h8, bindT (s182_i hr 41 41 rfl), if_pos ho]
    · rw [if_neg h8, if_neg (by rintro (h | h); exact hb h; exact h8 h)]
/-- The climb's step into the node above, with its opening bracket. -/
theorem climb_up {u : Nat} {S : FoS} {b : NoteT} (rec : Int → FoS → Option FoS) (x49 : NoteT) (hu : x49.up = (u : Int)) (hu24 : u < 24) (hv : S.notes[u]? = some b) (hr : Room S (if b.brk = true then 1 else 0)) :
    k185_1 rec x49 S = rec (u : Int) (if b.brk = true then pre S [40] else S) := by
  unfold k185_1
  rw [hu, bindT (getT (x := b) (by omega) (by omega) (by rw [Int.toNat_natCast]; exact hv))]
  by_cases hb : b.brk = true
  · rw [if_pos hb] at hr ⊢
    rw [if_pos hb, bindT (s182_i hr 40 40 rfl)]
  · rw [if_neg hb, if_neg hb]
theorem nt_self (S : FoS) : nt' S S.notes = S := rfl
theorem pre_nt (S : FoS) (N : List NoteT) (t : List UInt8) : nt' (pre S t) N = pre (nt' S N) t := rfl
theorem get_lt {ns : List NodeT} {v : Nat} {x : NodeT} (h : ns[v]? = some x) : v < ns.length := by
  rcases Nat.lt_or_ge v ns.length with h2 | h2
  · exact h2
  · rw [List.getElem?_eq_none h2] at h; cases h
theorem fill_leaf {n : Nat} {ns : List NodeT} {v : Nat} {x : NodeT} (hns : ns.length ≤ 24) (hx : ns[v]? = some x) (hk : x.kind ≠ 6 ∧ x.kind ≠ 7 ∧ x.kind ≠ 8 ∧ x.kind ≠ 9) (hl : ∀ S, Room S (leafT x).length → s184 n S x = some (pre S (leafT x))) : Fill n ns v v (s190 x = 5) (leafT x) := by
  intro m S up brk h24 hv hb hr
  have h5 : s190 x = 5 := by unfold s190; rw [if_neg hk.1, if_neg hk.2.1]
  have hbf : brk = false := by
    cases brk with
    | false => rfl
    | true => exact absurd h5 (hb rfl)
  subst hbf
  refine ⟨S.notes, 0, h24, fun _ _ => rfl, Nat.zero_le _, ?_⟩
  have no : ¬ (false = true ∨ x.kind = 8) := by rintro (h | h); cases h; exact hk.2.2.1 h
  rw [Nat.sub_self, Nat.add_zero, fill_step m hns hx h24 hv (by rw [if_neg no]; exact hr.sub (Nat.zero_le _)), if_neg no]
  unfold k143_6
  rw [if_neg hk.1, if_neg hk.2.1, if_neg hk.2.2.1, if_neg hk.2.2.2, bindT (hl S hr)]
  rfl
/-- The bracket that a node closes at its first step, and what is left of the room. -/
def cl (b : Bool) : List UInt8 := if b = true then [41] else []
def op (b : Bool) : List UInt8 := if b = true then [40] else []
theorem bq_eq (b : Bool) (t : List UInt8) : bq b t = op b ++ (t ++ cl b) := by
  unfold bq op cl
  cases b
  · simp
  · simp
theorem pre_if {S : FoS} (b : Bool) (h : Room S (cl b).length) : (if b = true then pre S [41] else S) = pre S (cl b) := by
  unfold cl at *
  cases b
  · rw [if_neg (by decide)] at h
    rw [if_neg (by decide), if_neg (by decide), pre_nil h]
  · rw [if_pos rfl, if_pos rfl]
theorem pre_if0 {S : FoS} (b : Bool) (h : Room S (op b).length) : (if b = true then pre S [40] else S) = pre S (op b) := by
  unfold op at *
  cases b
  · rw [if_neg (by decide)] at h
    rw [if_neg (by decide), if_neg (by decide), pre_nil h]
  · rw [if_pos rfl, if_pos rfl]
/-- A sign and its operand. -/
theorem fill_neg {n : Nat} {ns : List NodeT} {lo v : Nat} {x y : NodeT} {t : List UInt8} (hn : 100 ≤ n) (hns : ns.length ≤ 24) (hx : ns[v + 1]? = some x) (hk : x.kind = 6) (ha : x.a = v) (hy : ns[v]? = some y) (hlo : lo ≤ v) (h : Fill n ns lo v (s190 y = 5) t) :
    Fill n ns lo (v + 1) (s190 x = 5) ([45] ++ bq (decide (s190 y < 4)) t) := by
  intro m S up brk h24 hv hb hr
  have hv1 := get_lt hx
  rw [bq_eq] at hr
  generalize hT : bq (decide (s190 y < 4)) t = T at *
  have hr0 : Room S ((cl brk).length + (T.length + (1 + (op brk).length))) := hr.sub (by simp only [List.length_append, List.length_cons, List.length_nil]; omega)
  have e1 : (if brk = true ∨ x.kind = 8 then pre S [41] else S) = pre S (cl brk) := by
    rw [← pre_if brk (hr0.sub (by omega))]
    by_cases hbk : brk = true
    · rw [if_pos (Or.inl hbk), if_pos hbk]
    · rw [if_neg (by rintro (h | h); exact hbk h; omega), if_neg hbk]
  have hrs : Room S (if brk = true ∨ x.kind = 8 then 1 else 0) := by
    by_cases hbk : brk = true
    · rw [if_pos (Or.inl hbk)]
      have : (cl brk).length = 1 := by unfold cl; rw [if_pos hbk]; rfl
      exact hr0.sub (by omega)
    · rw [if_neg (by rintro (h | h); exact hbk h; omega)]
      exact hr0.sub (by omega)
  have hs := fill_step (n := n) (m + (v - lo) + 1) hns hx h24 hv hrs
  rw [e1] at hs
  have ef : m + (v + 1 - lo) + 1 = (m + (v - lo) + 1) + 1 := by omega
  rw [ef, hs]
  unfold k143_6
  rw [if_pos hk, ha, bindT (s183_ok (y := y) (by exact h24) hns hy)]
  unfold k143_2
  rw [ckF (by constructor <;> omega), show ((v + 1 : Nat) : Int) - 1 = (v : Int) by omega]
  obtain ⟨N, j, hN, hNe, hj, hrun⟩ := h m (nt' (pre S (cl brk)) (S.notes.set v ⟨((v + 1 : Nat) : Int), decide (s190 y < 4)⟩)) ((v + 1 : Nat) : Int) (decide (s190 y < 4)) (by show (S.notes.set v _).length = 24; rw [List.length_set]; exact h24)
    (by show (S.notes.set v _)[v]? = _; rw [List.getElem?_set_self (by omega)]) (by intro h; have := of_decide_eq_true h; omega) (by rw [hT]; exact ((pre_room hr0).nt _).sub (Nat.le_add_right _ _))
  rw [hT] at hrun
  have hpn : (pre S (cl brk)).notes = S.notes := rfl
  rw [hpn]
  rw [hrun]
  refine ⟨N, j + 1, hN, fun i hi => ?_, by omega, ?_⟩
  · rw [hNe i (by omega)]
    show (S.notes.set v _)[i]? = _
    rw [List.getElem?_set_ne (by omega)]
  -- the climb
  have hnv : N[v]? = some ⟨((v + 1 : Nat) : Int), decide (s190 y < 4)⟩ := by
    rw [hNe v (by omega)]
    show (S.notes.set v _)[v]? = _
    rw [List.getElem?_set_self (by omega)]
  have hnu : N[v + 1]? = some ⟨up, brk⟩ := by
    rw [hNe (v + 1) (by omega)]
    show (S.notes.set v _)[v + 1]? = _
    rw [List.getElem?_set_ne (by omega)]
    exact hv
  congr 1
  obtain ⟨g, hg⟩ : ∃ g, n - j = g + 1 := ⟨n - j - 1, by omega⟩
  rw [hg]
  show l185_2_st n ns ns.length (l185_2 n ns ns.length g) (v : Int) _ = _
  unfold l185_2_st
  rw [bindT (getT (x := ⟨((v + 1 : Nat) : Int), decide (s190 y < 4)⟩) (by omega) (by omega) (by rw [Int.toNat_natCast]; exact hnv))]
  rw [if_pos (show (0 : Int) ≤ ((v + 1 : Nat) : Int) by omega), bindT (getT (x := x) (by show (0 : Int) ≤ ((v + 1 : Nat) : Int); omega) (by show ((v + 1 : Nat) : Int) < _; omega) (by show ns[(((v + 1 : Nat) : Int)).toNat]? = _; rw [Int.toNat_natCast]; exact hx)), if_pos hk]
  have hc : (cl brk).length ≤ 1 := by unfold cl; split <;> simp
  have ho : (op brk).length ≤ 1 := by unfold op; split <;> simp
  have hR := (hr0.nt N)
  have e2 : pre (nt' (nt' (pre S (cl brk)) (S.notes.set v ⟨((v + 1 : Nat) : Int), decide (s190 y < 4)⟩)) N) T = pre (nt' S N) (T ++ cl brk) := by
    show pre (pre (nt' S N) (cl brk)) T = _
    exact pre_pre (hR.sub (by omega))
  rw [e2]
  have e3 := pre_ok (S := nt' S N) (t := T ++ cl brk) (u := [45]) (o := fun S => s182 S 45) (hR.sub (by simp only [List.length_append, List.length_singleton]; omega)) (fun S' h => s182_i h 45 45 rfl)
  rw [bindT e3]
  have hR2 : Room (nt' S N) ((([45] : List UInt8) ++ (T ++ cl brk)).length + (op brk).length) := hR.sub (by simp only [List.length_append, List.length_singleton]; omega)
  rw [climb_up (u := v + 1) (b := ⟨up, brk⟩) _ _ rfl (by omega) hnu (by
    have := pre_room hR2
    unfold op at this
    by_cases hbk : brk = true
    · rw [if_pos hbk] at this ⊢; exact this
    · rw [if_neg hbk] at this ⊢; exact this)]
  rw [pre_if0 brk (pre_room hR2), pre_pre hR2, show n - (j + 1) = g by omega, bq_eq, List.append_assoc]
/-- A node over one child: q is written at its first step, w in the climb. -/
theorem fill_over {n : Nat} {ns : List NodeT} {lo v : Nat} {z : Int} {x y : NodeT} {t w : List UInt8} {q : Bool → List UInt8} {P : Prop} (hn : 100 ≤ n) (hns : ns.length ≤ 24) (hx : ns[v + 1]? = some x) (hy : ns[v]? = some y) (hlo : lo ≤ v) (hz : z ≤ 4) (h : Fill n ns lo v (s190 y = 5) t)
    (hstep : ∀ (g : Nat) (S : FoS) (up : Int) (brk : Bool), S.notes.length = 24 → S.notes[v + 1]? = some ⟨up, brk⟩ → (brk = true → ¬ P) → Room S (q brk).length → l143_7 n ns ns.length (g + 1) ((v + 1 : Nat) : Int) S = l143_7 n ns ns.length g (v : Int) (nt' (pre S (q brk)) (S.notes.set v ⟨((v + 1 : Nat) : Int), decide (s190 y < z)⟩)))
    (hclimb : ∀ (g : Nat) (S : FoS) (up : Int) (brk c : Bool), S.notes.length = 24 → S.notes[v]? = some ⟨((v + 1 : Nat) : Int), c⟩ → S.notes[v + 1]? = some ⟨up, brk⟩ → Room S (op brk ++ w).length → l185_2 n ns ns.length (g + 1) (v : Int) S = l185_2 n ns ns.length g ((v + 1 : Nat) : Int) (pre S (op brk ++ w)))
    {t' : List UInt8} (ht : ∀ b, (b = true → ¬ P) → bq b t' = (op b ++ w) ++ (bq (decide (s190 y < z)) t ++ q b)) : Fill n ns lo (v + 1) P t' := by
  intro m S up brk h24 hv hb hr
  have hv1 := get_lt hx
  rw [ht brk hb] at hr ⊢
  generalize hT : bq (decide (s190 y < z)) t = T at *
  have hr0 : Room S ((q brk).length + (T.length + (op brk ++ w).length)) := hr.sub (by simp only [List.length_append]; omega)
  have ef : m + (v + 1 - lo) + 1 = (m + (v - lo) + 1) + 1 := by omega
  rw [ef, hstep _ S up brk h24 hv hb (hr0.sub (by omega))]
  obtain ⟨N, j, hN, hNe, hj, hrun⟩ := h m (nt' (pre S (q brk)) (S.notes.set v ⟨((v + 1 : Nat) : Int), decide (s190 y < z)⟩)) ((v + 1 : Nat) : Int) (decide (s190 y < z)) (by show (S.notes.set v _).length = 24; rw [List.length_set]; exact h24)
    (by show (S.notes.set v _)[v]? = _; rw [List.getElem?_set_self (by omega)]) (by intro h; have := of_decide_eq_true h; omega) (by rw [hT]; exact ((pre_room hr0).nt _).sub (Nat.le_add_right _ _))
  rw [hT] at hrun
  rw [hrun]
  refine ⟨N, j + 1, hN, fun i hi => ?_, by omega, ?_⟩
  · rw [hNe i (by omega)]
    show (S.notes.set v _)[i]? = _
    rw [List.getElem?_set_ne (by omega)]
  have hnv : N[v]? = some ⟨((v + 1 : Nat) : Int), decide (s190 y < z)⟩ := by
    rw [hNe v (by omega)]
    show (S.notes.set v _)[v]? = _
    rw [List.getElem?_set_self (by omega)]
  have hnu : N[v + 1]? = some ⟨up, brk⟩ := by
    rw [hNe (v + 1) (by omega)]
    show (S.notes.set v _)[v + 1]? = _
    rw [List.getElem?_set_ne (by omega)]
    exact hv
  congr 1
  obtain ⟨g, hg⟩ : ∃ g, n - j = g + 1 := ⟨n - j - 1, by omega⟩
  have hR := (hr0.nt N)
  have e2 : pre (nt' (nt' (pre S (q brk)) (S.notes.set v ⟨((v + 1 : Nat) : Int), decide (s190 y < z)⟩)) N) T = pre (nt' S N) (T ++ q brk) := by
    show pre (pre (nt' S N) (q brk)) T = _
    exact pre_pre (hR.sub (by omega))
  have hR2 : Room (nt' S N) ((T ++ q brk).length + (op brk ++ w).length) := hR.sub (by simp only [List.length_append]; omega)
  rw [hg, e2, hclimb g _ up brk _ hN hnv hnu (pre_room hR2), pre_pre hR2, show n - (j + 1) = g by omega]
/-- The climb's step from v: what stands at the node above. -/
theorem climb_st {n : Nat} {ns : List NodeT} {v u : Nat} {x : NodeT} {c : Bool} {S : FoS} (g : Nat) (hns : ns.length ≤ 24) (h24 : S.notes.length = 24) (hx : ns[u]? = some x) (hvu : v < u) (hv : S.notes[v]? = some ⟨(u : Int), c⟩) :
    l185_2 n ns ns.length (g + 1) (v : Int) S = (if x.kind = (6 : Int) then (s182 S (45 : Int)).bind fun r83 => (k185_1 (l185_2 n ns ns.length g) ⟨(u : Int), c⟩ r83)
      else (if x.kind = (7 : Int) then (if (v : Int) = x.b then (s215 S x.op).bind fun r90 => some r90 else (k185_1 (l185_2 n ns ns.length g) ⟨(u : Int), c⟩ S))
      else (if x.kind = (9 : Int) then (if (v : Int) = x.a then (if (0 : Int) ≤ x.b then (s182 S (44 : Int)).bind fun r99 => some r99 else (k185_1 (l185_2 n ns ns.length g) ⟨(u : Int), c⟩ S)) else (k185_1 (l185_2 n ns ns.length g) ⟨(u : Int), c⟩ S))
      else (s182 S (40 : Int)).bind fun r102 => (s213 n r102 (s195 x.op)).bind fun r106 => (k185_1 (l185_2 n ns ns.length g) ⟨(u : Int), c⟩ r106)))) := by
  have hu := get_lt hx
  show l185_2_st n ns ns.length (l185_2 n ns ns.length g) (v : Int) S = _
  unfold l185_2_st
  rw [bindT (getT (x := ⟨(u : Int), c⟩) (by omega) (by omega) (by rw [Int.toNat_natCast]; exact hv))]
  rw [if_pos (show (0 : Int) ≤ (u : Int) by omega), bindT (getT (x := x) (by show (0 : Int) ≤ (u : Int); omega) (by show (u : Int) < _; omega) (by show ns[((u : Int)).toNat]? = _; rw [Int.toNat_natCast]; exact hx))]
theorem climb_op {u : Nat} {S : FoS} {up : Int} {brk : Bool} (rec : Int → FoS → Option FoS) (c : Bool) (hu24 : u < 24) (hv : S.notes[u]? = some ⟨up, brk⟩) (hr : Room S (op brk).length) : k185_1 rec ⟨(u : Int), c⟩ S = rec (u : Int) (pre S (op brk)) := by
  rw [climb_up (u := u) (b := ⟨up, brk⟩) rec _ rfl hu24 hv (by
    unfold op at hr
    by_cases hbk : brk = true
    · rw [if_pos hbk] at hr ⊢; exact hr
    · rw [if_neg hbk] at hr ⊢; exact hr)]
  rw [pre_if0 brk hr]
/-- A call over its arguments. -/
theorem fill_call {n : Nat} {ns : List NodeT} {lo v : Nat} {x y : NodeT} {t : List UInt8} (hn : 100 ≤ n) (hns : ns.length ≤ 24) (hx : ns[v + 1]? = some x) (hk : x.kind = 8) (ha : x.a = v) (hy : ns[v]? = some y) (hlo : lo ≤ v) (h : Fill n ns lo v (s190 y = 5) t) :
    Fill n ns lo (v + 1) (s190 x = 5) (s195 x.op ++ ([40] ++ (t ++ [41]))) := by
  have hv1 := get_lt hx
  have h5 : s190 x = 5 := by unfold s190; rw [if_neg (by omega), if_neg (by omega)]
  have hbf : ∀ b : Bool, (b = true → ¬ s190 x = 5) → b = false := by
    intro b hb
    cases b with
    | false => rfl
    | true => exact absurd h5 (hb rfl)
  have hd : decide (s190 y < 1) = false := decide_eq_false (by have := s190_bd y; omega)
  refine fill_over (z := 1) (w := s195 x.op ++ [40]) (q := fun _ => [41]) hn hns hx hy hlo (by decide) h ?_ ?_ ?_
  · intro g S up brk h24 hv hb hr
    have hbk := hbf brk hb
    rw [fill_step g hns hx h24 hv (by rw [if_pos (Or.inr hk)]; exact hr), if_pos (Or.inr hk)]
    unfold k143_6
    rw [if_neg (by omega), if_neg (by omega), if_pos hk, ha, bindT (s183_ok (y := y) (by exact h24) hns hy)]
    unfold k143_2
    rw [ckF (by constructor <;> omega), show ((v + 1 : Nat) : Int) - 1 = (v : Int) by omega]
    rfl
  · intro g S up brk c h24 hv hu hr
    rw [climb_st g hns h24 hx (Nat.lt_succ_self v) hv, if_neg (by omega), if_neg (by omega), if_neg (by omega)]
    have hr3 : Room S ((s195 x.op ++ [40]).length + (op brk).length) := hr.sub (by simp only [List.length_append]; omega)
    rw [bindT (s182_i (hr3.sub (by simp only [List.length_append, List.length_singleton]; omega)) 40 40 rfl)]
    have hl := s195_len x.op
    have e3 := pre_ok (S := S) (t := [40]) (u := s195 x.op) (o := fun S => s213 n S (s195 x.op)) (hr3.sub (by omega)) (fun S' h => s213_ok (by omega) (by omega) h)
    rw [bindT e3, climb_op (S := pre S (s195 x.op ++ [40])) (up := up) (brk := brk) _ c (by omega) hu (pre_room hr3), pre_pre hr3]
  · intro b hb
    rw [hbf b hb, hd]
    show s195 x.op ++ ([40] ++ (t ++ [41])) = ([] ++ (s195 x.op ++ [40])) ++ (t ++ [41])
    simp
/-- The last argument node, over its only child. -/
theorem fill_arg1 {n : Nat} {ns : List NodeT} {lo v : Nat} {x y : NodeT} {t : List UInt8} (hn : 100 ≤ n) (hns : ns.length ≤ 24) (hx : ns[v + 1]? = some x) (hk : x.kind = 9) (ha : x.a = v) (hb : x.b = -1) (hy : ns[v]? = some y) (hlo : lo ≤ v) (h : Fill n ns lo v (s190 y = 5) t) :
    Fill n ns lo (v + 1) (s190 x = 5) t := by
  have hv1 := get_lt hx
  have h5 : s190 x = 5 := by unfold s190; rw [if_neg (by omega), if_neg (by omega)]
  have hbf : ∀ b : Bool, (b = true → ¬ s190 x = 5) → b = false := by
    intro b hb
    cases b with
    | false => rfl
    | true => exact absurd h5 (hb rfl)
  have hd : decide (s190 y < 1) = false := decide_eq_false (by have := s190_bd y; omega)
  refine fill_over (z := 1) (w := []) (q := fun _ => []) hn hns hx hy hlo (by decide) h ?_ ?_ ?_
  · intro g S up brk h24 hv hbb hr
    have hbk := hbf brk hbb
    have no : ¬ (brk = true ∨ x.kind = 8) := by rintro (h | h); rw [hbk] at h; cases h; omega
    rw [fill_step g hns hx h24 hv (by rw [if_neg no]; exact hr), if_neg no, pre_nil hr]
    unfold k143_6
    rw [if_neg (by omega), if_neg (by omega), if_neg (by omega), if_pos hk, ha, bindT (s183_ok (y := y) (by exact h24) hns hy), if_neg (by omega)]
    unfold k143_2
    rw [ckF (by constructor <;> omega), show ((v + 1 : Nat) : Int) - 1 = (v : Int) by omega]
  · intro g S up brk c h24 hv hu hr
    rw [climb_st g hns h24 hx (Nat.lt_succ_self v) hv, if_neg (by omega), if_neg (by omega), if_pos hk, if_pos ha.symm, if_neg (by omega), List.append_nil] at *
    exact climb_op (up := up) (brk := brk) _ c (by omega) hu hr
  · intro b hb
    rw [hbf b hb, hd]
    show t = ([] ++ []) ++ (t ++ [])
    simp
/-- A node over two children: the right one at v, the left one at a. -/
theorem fill_two {n : Nat} {ns : List NodeT} {lo v a : Nat} {z1 z2 : Int} {x y y2 : NodeT} {t u w : List UInt8} {q : Bool → List UInt8} {P : Prop} (hn : 100 ≤ n) (hns : ns.length ≤ 24) (hx : ns[v + 1]? = some x) (hy : ns[v]? = some y) (hy2 : ns[a]? = some y2) (hlo : lo ≤ a) (hav : a < v) (hz1 : z1 ≤ 4) (hz2 : z2 ≤ 4)
    (h1 : Fill n ns (a + 1) v (s190 y = 5) t) (h2 : Fill n ns lo a (s190 y2 = 5) u)
    (hstep : ∀ (g : Nat) (S : FoS) (up : Int) (brk : Bool), S.notes.length = 24 → S.notes[v + 1]? = some ⟨up, brk⟩ → (brk = true → ¬ P) → Room S (q brk).length → l143_7 n ns ns.length (g + 1) ((v + 1 : Nat) : Int) S = l143_7 n ns ns.length g (v : Int) (nt' (pre S (q brk)) ((S.notes.set v ⟨((v + 1 : Nat) : Int), decide (s190 y < z1)⟩).set a ⟨((v + 1 : Nat) : Int), decide (s190 y2 < z2)⟩)))
    (hmid : ∀ (g : Nat) (S : FoS) (c : Bool), S.notes.length = 24 → S.notes[v]? = some ⟨((v + 1 : Nat) : Int), c⟩ → Room S w.length → l185_2 n ns ns.length (g + 1) (v : Int) S = some (pre S w))
    (hclimb : ∀ (g : Nat) (S : FoS) (up : Int) (brk c : Bool), S.notes.length = 24 → S.notes[a]? = some ⟨((v + 1 : Nat) : Int), c⟩ → S.notes[v + 1]? = some ⟨up, brk⟩ → Room S (op brk).length → l185_2 n ns ns.length (g + 1) (a : Int) S = l185_2 n ns ns.length g ((v + 1 : Nat) : Int) (pre S (op brk)))
    {t' : List UInt8} (ht : ∀ b, (b = true → ¬ P) → bq b t' = op b ++ (bq (decide (s190 y2 < z2)) u ++ (w ++ (bq (decide (s190 y < z1)) t ++ q b)))) : Fill n ns lo (v + 1) P t' := by
  intro m S up brk h24 hv hb hr
  have hv1 := get_lt hx
  rw [ht brk hb] at hr ⊢
  generalize hT : bq (decide (s190 y < z1)) t = T at *
  generalize hU : bq (decide (s190 y2 < z2)) u = U at *
  generalize hN0 : ((S.notes.set v ⟨((v + 1 : Nat) : Int), decide (s190 y < z1)⟩).set a ⟨((v + 1 : Nat) : Int), decide (s190 y2 < z2)⟩) = N0 at *
  have hN0l : N0.length = 24 := by rw [← hN0, List.length_set, List.length_set]; exact h24
  have hN0v : N0[v]? = some ⟨((v + 1 : Nat) : Int), decide (s190 y < z1)⟩ := by
    rw [← hN0, List.getElem?_set_ne (by omega), List.getElem?_set_self (by omega)]
  have hN0a : N0[a]? = some ⟨((v + 1 : Nat) : Int), decide (s190 y2 < z2)⟩ := by
    rw [← hN0, List.getElem?_set_self (by rw [List.length_set]; omega)]
  have hN0o : ∀ i, i ≠ v → i ≠ a → N0[i]? = S.notes[i]? := by
    intro i i1 i2
    rw [← hN0, List.getElem?_set_ne (by omega), List.getElem?_set_ne (by omega)]
  have hr0 : Room S ((q brk).length + (T.length + (w.length + (U.length + (op brk).length)))) := hr.sub (by simp only [List.length_append]; omega)
  have ef : m + (v + 1 - lo) + 1 = ((m + (a - lo) + 1) + (v - (a + 1)) + 1) + 1 := by omega
  rw [ef, hstep _ S up brk h24 hv hb (hr0.sub (by omega)), hN0]
  obtain ⟨N, j, hN, hNe, hj, hrun⟩ := h1 (m + (a - lo) + 1) (nt' (pre S (q brk)) N0) ((v + 1 : Nat) : Int) (decide (s190 y < z1)) hN0l hN0v (by intro h; have := of_decide_eq_true h; omega) (by rw [hT]; exact ((pre_room hr0).nt _).sub (Nat.le_add_right _ _))
  rw [hT] at hrun
  rw [hrun]
  have hNe' : ∀ i, (i < a + 1 ∨ v ≤ i) → N[i]? = N0[i]? := hNe
  obtain ⟨g, hg⟩ : ∃ g, n - j = g + 1 := ⟨n - j - 1, by omega⟩
  have hR := (hr0.nt N)
  have e2 : pre (nt' (nt' (pre S (q brk)) N0) N) T = pre (nt' S N) (T ++ q brk) := by
    show pre (pre (nt' S N) (q brk)) T = _
    exact pre_pre (hR.sub (by omega))
  have hR2 : Room (nt' S N) ((T ++ q brk).length + w.length) := hR.sub (by simp only [List.length_append]; omega)
  rw [hg, e2, hmid g _ _ hN (by show N[v]? = _; rw [hNe' v (by omega)]; exact hN0v) (pre_room hR2), pre_pre hR2]
  show ∃ N_1 j, _ ∧ _ ∧ _ ∧ k143_2 ((a + 1 : Nat) : Int) (l143_7 n ns ns.length (m + (a - lo) + 1)) (pre (nt' S N) (w ++ (T ++ q brk))) = _
  unfold k143_2
  rw [ckF (by constructor <;> omega), show ((a + 1 : Nat) : Int) - 1 = (a : Int) by omega]
  have hR3 : Room (nt' S N) ((w ++ (T ++ q brk)).length + (U.length + (op brk).length)) := hR.sub (by simp only [List.length_append]; omega)
  obtain ⟨N2, j2, hN2, hNe2, hj2, hrun2⟩ := h2 m (pre (nt' S N) (w ++ (T ++ q brk))) ((v + 1 : Nat) : Int) (decide (s190 y2 < z2)) hN (by show N[a]? = _; rw [hNe' a (by omega)]; exact hN0a) (by intro h; have := of_decide_eq_true h; omega) (by rw [hU]; exact (pre_room hR3).sub (Nat.le_add_right _ _))
  rw [hU] at hrun2
  have hNe2' : ∀ i, (i < lo ∨ a ≤ i) → N2[i]? = N[i]? := hNe2
  rw [hrun2]
  refine ⟨N2, j2 + 1, hN2, fun i hi => ?_, by omega, ?_⟩
  · rw [hNe2' i (by omega), hNe' i (by omega), hN0o i (by omega) (by omega)]
  have hnu : N2[v + 1]? = some ⟨up, brk⟩ := by rw [hNe2' _ (by omega), hNe' _ (by omega), hN0o _ (by omega) (by omega)]; exact hv
  have hna : N2[a]? = some ⟨((v + 1 : Nat) : Int), decide (s190 y2 < z2)⟩ := by rw [hNe2' _ (by omega), hNe' _ (by omega)]; exact hN0a
  congr 1
  obtain ⟨g2, hg2⟩ : ∃ g, n - j2 = g + 1 := ⟨n - j2 - 1, by omega⟩
  have hR4 := hr0.nt N2
  have e4 : pre (nt' (pre (nt' S N) (w ++ (T ++ q brk))) N2) U = pre (nt' S N2) (U ++ (w ++ (T ++ q brk))) := by
    show pre (pre (nt' S N2) (w ++ (T ++ q brk))) U = _
    exact pre_pre (hR4.sub (by simp only [List.length_append]; omega))
  have hR5 : Room (nt' S N2) ((U ++ (w ++ (T ++ q brk))).length + (op brk).length) := hR4.sub (by simp only [List.length_append]; omega)
  rw [hg2, e4, hclimb g2 _ up brk _ hN2 hna hnu (pre_room hR5), pre_pre hR5, show n - (j2 + 1) = g2 by omega]
theorem cl_step {x : NodeT} {S : FoS} {brk : Bool} (hk : x.kind ≠ 8) (hr : Room S (cl brk).length) : Room S (if brk = true ∨ x.kind = 8 then 1 else 0) ∧ (if brk = true ∨ x.kind = 8 then pre S [41] else S) = pre S (cl brk) := by
  by_cases hbk : brk = true
  · have : (cl brk).length = 1 := by unfold cl; rw [if_pos hbk]; rfl
    rw [if_pos (Or.inl hbk), if_pos (Or.inl hbk)]
    refine ⟨hr.sub (by omega), ?_⟩
    unfold cl
    rw [if_pos hbk]
  · have no : ¬ (brk = true ∨ x.kind = 8) := by rintro (h | h); exact hbk h; exact hk h
    rw [if_neg no, if_neg no]
    refine ⟨hr.sub (Nat.zero_le _), ?_⟩
    have e := pre_if brk hr
    rw [if_neg hbk] at e
    exact e
def zA (x : NodeT) : Int := if s169 x.op = 1 then 2 else s169 x.op
/-- An operator over its operands. -/
theorem fill_bin {n : Nat} {ns : List NodeT} {lo v a : Nat} {x y y2 : NodeT} {t u : List UInt8} (hn : 100 ≤ n) (hns : ns.length ≤ 24) (hx : ns[v + 1]? = some x) (hk : x.kind = 7) (ho : 1 ≤ x.op ∧ x.op ≤ 10) (hb : x.b = v) (ha : x.a = a) (hy : ns[v]? = some y) (hy2 : ns[a]? = some y2) (hlo : lo ≤ a) (hav : a < v)
    (h1 : Fill n ns (a + 1) v (s190 y = 5) t) (h2 : Fill n ns lo a (s190 y2 = 5) u) : Fill n ns lo (v + 1) (s190 x = 5) (bq (decide (s190 y2 < zA x)) u ++ (s193 x.op ++ bq (decide (s190 y < s169 x.op + 1)) t)) := by
  have hv1 := get_lt hx
  have hp := s169_bd x.op
  have hz : zA x ≤ 4 := by unfold zA; split <;> omega
  refine fill_two (z1 := s169 x.op + 1) (z2 := zA x) (w := s193 x.op) (q := cl) hn hns hx hy hy2 hlo hav (by omega) hz h1 h2 ?_ ?_ ?_ ?_
  · intro g S up brk h24 hv hbb hr
    obtain ⟨c1, c2⟩ := cl_step (x := x) (S := S) (brk := brk) (by omega) hr
    rw [fill_step g hns hx h24 hv c1, c2]
    unfold k143_6
    rw [if_neg (by omega), if_pos hk, ckF (by constructor <;> omega), hb, bindT (s183_ok (y := y) (by exact h24) hns hy)]
    have k5 : ∀ z : Int, z = zA x → k143_5 ns ns.length ((v + 1 : Nat) : Int) (l143_7 n ns ns.length g) x (nt' (pre S (cl brk)) ((pre S (cl brk)).notes.set v ⟨((v + 1 : Nat) : Int), decide (s190 y < s169 x.op + 1)⟩)) z = l143_7 n ns ns.length g (v : Int) (nt' (pre S (cl brk)) ((S.notes.set v ⟨((v + 1 : Nat) : Int), decide (s190 y < s169 x.op + 1)⟩).set a ⟨((v + 1 : Nat) : Int), decide (s190 y2 < zA x)⟩)) := by
      intro z hz
      subst hz
      unfold k143_5
      rw [ha, bindT (s183_ok (y := y2) (by show (S.notes.set v _).length = 24; rw [List.length_set]; exact h24) hns hy2)]
      unfold k143_2
      rw [ckF (by constructor <;> omega), show ((v + 1 : Nat) : Int) - 1 = (v : Int) by omega]
      rfl
    by_cases h3 : s169 x.op = 1
    · rw [if_pos h3]
      exact k5 2 (by unfold zA; rw [if_pos h3])
    · rw [if_neg h3]
      exact k5 _ (by unfold zA; rw [if_neg h3])
  · intro g S c h24 hv hr
    rw [climb_st g hns h24 hx (Nat.lt_succ_self v) hv, if_neg (by omega), if_pos hk, if_pos hb.symm, bindT (s215_ok ho.1 ho.2 hr)]
  · intro g S up brk c h24 hva hu hr
    rw [climb_st g hns h24 hx (by omega) hva, if_neg (by omega), if_pos hk, if_neg (by omega)]
    exact climb_op (up := up) (brk := brk) _ c (by omega) hu hr
  · intro b hb
    rw [bq_eq]
    simp only [List.append_assoc]
/-- An argument node over its argument and the arguments ahead of it. -/
theorem fill_more {n : Nat} {ns : List NodeT} {lo v a : Nat} {x y y2 : NodeT} {t u : List UInt8} (hn : 100 ≤ n) (hns : ns.length ≤ 24) (hx : ns[v + 1]? = some x) (hk : x.kind = 9) (ha : x.a = v) (hb : x.b = a) (hy : ns[v]? = some y) (hy2 : ns[a]? = some y2) (hlo : lo ≤ a) (hav : a < v)
    (h1 : Fill n ns (a + 1) v (s190 y = 5) t) (h2 : Fill n ns lo a (s190 y2 = 5) u) : Fill n ns lo (v + 1) (s190 x = 5) (u ++ ([44] ++ t)) := by
  have hv1 := get_lt hx
  have h5 : s190 x = 5 := by unfold s190; rw [if_neg (by omega), if_neg (by omega)]
  have hbf : ∀ b : Bool, (b = true → ¬ s190 x = 5) → b = false := by
    intro b hb
    cases b with
    | false => rfl
    | true => exact absurd h5 (hb rfl)
  have hd : decide (s190 y < 1) = false := decide_eq_false (by have := s190_bd y; omega)
  have hd2 : decide (s190 y2 < 1) = false := decide_eq_false (by have := s190_bd y2; omega)
  refine fill_two (z1 := 1) (z2 := 1) (w := [44]) (q := fun _ => []) hn hns hx hy hy2 hlo hav (by decide) (by decide) h1 h2 ?_ ?_ ?_ ?_
  · intro g S up brk h24 hv hbb hr
    have hbk := hbf brk hbb
    have no : ¬ (brk = true ∨ x.kind = 8) := by rintro (h | h); rw [hbk] at h; cases h; omega
    rw [fill_step g hns hx h24 hv (by rw [if_neg no]; exact hr), if_neg no, pre_nil hr]
    unfold k143_6
    rw [if_neg (by omega), if_neg (by omega), if_neg (by omega), if_pos hk, ha, bindT (s183_ok (y := y) (by exact h24) hns hy), if_pos (by omega), hb, bindT (s183_ok (y := y2) (by show (S.notes.set v _).length = 24; rw [List.length_set]; exact h24) hns hy2)]
    unfold k143_2
    rw [ckF (by constructor <;> omega), show ((v + 1 : Nat) : Int) - 1 = (v : Int) by omega]
    rfl
  · intro g S c h24 hv hr
    rw [climb_st g hns h24 hx (Nat.lt_succ_self v) hv, if_neg (by omega), if_neg (by omega), if_pos hk, if_pos ha.symm, if_pos (by omega), bindT (s182_i hr 44 44 rfl)]
  · intro g S up brk c h24 hva hu hr
    rw [climb_st g hns h24 hx (by omega) hva, if_neg (by omega), if_neg (by omega), if_pos hk, if_neg (by omega)]
    exact climb_op (up := up) (brk := brk) _ c (by omega) hu hr
  · intro b hb
    rw [hbf b hb, hd, hd2]
    show u ++ ([44] ++ t) = [] ++ (u ++ ([44] ++ (t ++ [])))
    simp
end Go.Proofs.Qxb6500272aGreat
