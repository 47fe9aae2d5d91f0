/-
  The walk of the law's own loop (f7) and what stands above it.
-/
import Derived.Test.Qxb6500272aGreatC5
import Derived.Test.Qxb6500272aGreatD1
namespace Go.Proofs.Qxb6500272aGreat
open Go
set_option linter.unusedVariables false
set_option linter.unusedSimpArgs false
/-- All that lies in a heap. -/
def allE (H : Heap) : List Ent := (List.range H.size).filterMap fun i => H[i]?.map fun x => (i, x)
theorem mem_allE {H : Heap} {i : Nat} {x : Obj} : (i, x) ∈ allE H ↔ H[i]? = some x := by
  unfold allE
  rw [List.mem_filterMap]
  constructor
  · intro ⟨j, _, h2⟩
    cases hx : H[j]? with
    | none => rw [hx] at h2; cases h2
    | some y =>
      rw [hx] at h2
      injection h2 with h2
      injection h2 with h3 h4
      subst h3; subst h4; exact hx
  · intro h
    have hi : i < H.size := by
      rcases Nat.lt_or_ge i H.size with h' | h'
      · exact h'
      · rw [Array.getElem?_eq_none h'] at h; cases h
    exact ⟨i, List.mem_range.2 hi, by rw [h]; rfl⟩
theorem own_all (H : Heap) : Own H [] (allE H) := by
  refine ⟨?_, fun e he => ?_⟩
  · simp only [List.flatten_nil, List.nil_append]
    unfold allE
    have : ((List.range H.size).filterMap fun i => H[i]?.map fun x => ((i, x) : Ent)).map (·.1) = List.range H.size := by
      rw [List.map_filterMap]
      have : ∀ l : List Nat, (∀ i ∈ l, i < H.size) → l.filterMap (fun i => Option.map (fun x : Ent => x.1) (H[i]?.map fun x => ((i, x) : Ent))) = l := by
        intro l
        induction l with
        | nil => intro _; rfl
        | cons a l ih =>
          intro h
          have ha := h a (List.mem_cons_self ..)
          rw [List.filterMap_cons, Array.getElem?_eq_getElem ha]
          simp only [Option.map_some]
          rw [ih (fun i hi => h i (List.mem_cons_of_mem _ hi))]
      exact this _ (fun i hi => List.mem_range.1 hi)
    rw [this]
    exact List.nodup_range
  · simp only [List.flatten_nil, List.nil_append] at he
    exact mem_allE.1 he
theorem Own.same {H H' : Heap} {cs : List (List Ent)} (h : Own H' cs (allE H)) {i : Nat} (hi : i < H.size) : H'[i]? = H[i]? := by
  have hx : H[i]? = some (H[i]'hi) := Array.getElem?_eq_getElem hi
  have := h.2 (i, H[i]'hi) (List.mem_append_right _ (mem_allE.2 hx))
  rw [this, hx]
theorem rd_same {H H' : Heap} (hs : ∀ i, i < H.size → H'[i]? = H[i]?) {b o : Nat} {v : Value} (h : rd H b o = some v) : rd H' b o = some v := by
  have hb : b < H.size := by
    rcases Nat.lt_or_ge b H.size with h' | h'
    · exact h'
    · unfold rd at h; rw [Array.getElem?_eq_none h'] at h; cases h
  unfold rd at h ⊢
  rw [hs b hb]; exact h
theorem rowAt_same {H H' : Heap} (hs : ∀ i, i < H.size → H'[i]? = H[i]?) {b o : Nat} {l : List Value} (h : RowAt H b o l) : RowAt H' b o l := by
  intro j hj
  rw [List.getElem?_eq_getElem hj]
  exact rd_same hs (by rw [h j hj, List.getElem?_eq_getElem hj])
/-- All that the loop keeps. -/
def Kept (H : Heap) (q : Bool) (p3 p6 z : Nat) (H' : Heap) : Prop :=
  ∃ B M D L0 L1 L2, DC B M D ∧ D.quiet = q ∧ Own H' [oB p3 L0 B, oBM p6 L1 M, oD z L2 D] (allE H)
theorem c7 (z0 : Option Addr) (z0l z0c : Nat) (q : Bool) (ops : Nat → OpT) (H : Heap)
    (hz : ∀ i, i < z0l → ∃ p o, z0 = some ⟨p, o, none⟩ ∧ RowAt H p (o + i * 6) (encOp (ops i)))
    (R : Value → Heap → Prop) (hR : ∀ (H' : Heap) (k : Int), (∀ i, i < H.size → H'[i]? = H[i]?) → R (.tuple #[I (-1), I k]) H') :
    HCalls Tryz.prog 7 #[.slice z0 z0l z0c, .bool q] H R := by
  refine vc7 z0 z0l z0c q H R ?_
  refine c8 _ rfl _ _ _ (own_all H) (fun H2 p3 L3 hO => ?_)
  refine ⟨p3, rfl, ?_⟩
  refine c9 _ rfl _ _ _ (fr0 hO) (fun H5 p6 L6 hO => ?_)
  replace hO := un1 hO
  refine ⟨p6, rfl, ?_⟩
  intro H7 e7
  replace hO := own_new hO e7 rfl
  replace hO := own_nil hO
  replace hO := own_nil hO
  replace hO := close_D (⟨SnL.nil, SnL.nil⟩ : DL) (desk0 q) (pu2 hO)
  replace hO := pu1 (pu2 (pu2 hO))
  have hK : Kept H q p3 p6 H5.size H7 := ⟨s8, s9, desk0 q, L3, L6, _, dc0 q, rfl, hO⟩
  clear hO e7
  have alike : ∀ (n : Value) (K : Heap → Prop) (H' : Heap), Kept H q p3 p6 H5.size H' → (∀ H'', Kept H q p3 p6 H5.size H'' → K H'') →
      HCalls Tryz.prog 10 #[Value.pointer (some ⟨p3, 0, none⟩), Value.pointer (some ⟨p6, 0, none⟩), Value.pointer (some ⟨H5.size, 0, none⟩)] H' fun v9 H10 => ∃ q11 : Bool, v9 = Value.bool q11 ∧ (((!q11) = true → R (.tuple #[n, n]) H10) ∧ ((!q11) = false → K H10)) := by
    intro n K H' hK hk
    obtain ⟨B, M, D, L0, L1, L2, hD, hq, hO⟩ := hK
    obtain ⟨B', e, hD'⟩ := s10_ok (Nat.le_refl 2000) hD
    refine c10 2000 p3 L0 B p6 L1 M H5.size L2 D _ e _ _ _ hO (fun H'' hO => ?_)
    exact ⟨true, rfl, fun h => (by cases h), fun _ => hk _ ⟨B', M, D, L0, L1, L2, hD', hq, hO⟩⟩
  have same : ∀ H', Kept H q p3 p6 H5.size H' → ∀ i, i < H.size → H'[i]? = H[i]? := fun H' ⟨_, _, _, _, _, _, _, _, hO⟩ i hi => hO.same hi
  refine ⟨fun _ H' => Kept H q p3 p6 H5.size H', ⟨fun _ => alike _ _ _ hK (fun _ h => h), fun _ => hK⟩, ?_⟩
  intro H12 _ hK12
  refine ⟨fun l H' => Kept H q p3 p6 H5.size H' ∧ ∃ k : Nat, l = [I (k : Int)] ∧ k ≤ z0l ∧ k ≤ 4398046511104, fun l _ => z0l - (asI (nth l 0)).toNat, ⟨hK12, 0, rfl, Nat.zero_le _, Nat.zero_le _⟩, ?_⟩
  intro H16 _ n hJ
  obtain ⟨hK16, k, e, hk1, hk2⟩ := hJ
  obtain rfl : n = (k : Int) := by simpa using e
  have hs := same _ hK16
  refine ⟨fun h1 => ?_, fun _ => ⟨fun _ => hR _ _ hs, fun _ => hR _ _ hs⟩⟩
  replace h1 : k < z0l := by have := of_decide_eq_true h1; omega
  refine ⟨fun h2 => ?_, fun _ => ⟨fun _ => hR _ _ hs, fun _ => hR _ _ hs⟩⟩
  replace h2 : k < 4398046511104 := by have := of_decide_eq_true h2; omega
  refine ⟨fun _ H' => Kept H q p3 p6 H5.size H', ?_, ?_⟩
  · obtain ⟨p, o, ez, hrow⟩ := hz k h1
    refine ⟨p, o, ez, by omega, by omega, rfl, ops k, rowAt_same hs (by rw [Int.toNat_natCast]; exact hrow), ?_⟩
    obtain ⟨B, M, D, L0, L1, L2, hD, hq, hO⟩ := hK16
    obtain ⟨B', M', D', e', hD', hq'⟩ := s11_ok (Nat.le_refl 2000) hD (ops k)
    refine c11 2000 p3 L0 B p6 L1 M H5.size L2 D (ops k) _ e' _ _ _ hO (fun H24 L1' L2' hO => ?_)
    have hK24 : Kept H q p3 p6 H5.size H24 := ⟨B', M', D', L0, L1', L2', hD', by rw [hq', hq], hO⟩
    exact ⟨true, rfl, fun h => (by cases h), fun _ => ⟨fun _ => alike _ _ _ hK24 (fun _ h => h), fun _ => hK24⟩⟩
  · intro H29 _ hK29
    refine ⟨(k : Int) + 1, .inl ⟨⟨by omega, by omega⟩, rfl⟩, ⟨hK29, k + 1, by simp, by omega, by omega⟩, ?_⟩
    show z0l - ((k : Int) + 1).toNat < z0l - (k : Int).toNat
    omega
/-- The two laws, over a whole slice of operations. -/
theorem c3 (z0 : Option Addr) (z0l z0c : Nat) (ops : Nat → OpT) (H : Heap)
    (hz : ∀ i, i < z0l → ∃ p o, z0 = some ⟨p, o, none⟩ ∧ RowAt H p (o + i * 6) (encOp (ops i))) :
    HCalls Tryz.prog 3 #[.slice z0 z0l z0c] H fun v H' => v = .bool true ∧ ∀ i, i < H.size → H'[i]? = H[i]? := by
  refine vc3 _ _ _ _ _ (vc5 _ _ _ _ _ (c7 z0 z0l z0c false ops H hz _ (fun H' k hs => ?_)))
  exact ⟨-1, k, rfl, -1, rfl, rfl, hs⟩
theorem c4 (z0 : Option Addr) (z0l z0c : Nat) (ops : Nat → OpT) (H : Heap)
    (hz : ∀ i, i < z0l → ∃ p o, z0 = some ⟨p, o, none⟩ ∧ RowAt H p (o + i * 6) (encOp (ops i))) :
    HCalls Tryz.prog 4 #[.slice z0 z0l z0c] H fun v H' => v = .bool true ∧ ∀ i, i < H.size → H'[i]? = H[i]? := by
  refine vc4 _ _ _ _ _ (vc6 _ _ _ _ _ (c7 z0 z0l z0c true ops H hz _ (fun H' k hs => ?_)))
  exact ⟨-1, k, rfl, -1, rfl, rfl, hs⟩
end Go.Proofs.Qxb6500272aGreat
