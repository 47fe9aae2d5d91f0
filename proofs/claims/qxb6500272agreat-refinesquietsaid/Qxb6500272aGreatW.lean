/-
  What is owned: a heap as chunks that lie apart; the rest is a frame. For the printed walks.
-/
import Derived.Test.Qxb6500272aGreatLib
namespace Go.Proofs.Qxb6500272aGreat
open Go
set_option linter.unusedSimpArgs false
set_option linter.unusedVariables false

abbrev Ent := Nat × Obj
/-- Block b holds just the cells l. -/
def cellE (T b : Nat) (l : List Value) : List Ent := [(b, .cells ⟨l⟩ T (0, 0))]
/-- The chunks cs and the frame F lie apart in H. -/
def Own (H : Heap) (cs : List (List Ent)) (F : List Ent) : Prop :=
  ((cs.flatten ++ F).map (·.1)).Nodup ∧ ∀ e ∈ cs.flatten ++ F, H[e.1]? = some e.2

theorem Own.perm {H : Heap} {cs cs' : List (List Ent)} {F F' : List Ent} (h : Own H cs F) (p : (cs.flatten ++ F).Perm (cs'.flatten ++ F')) : Own H cs' F' :=
  ⟨(p.map _).nodup_iff.1 h.1, fun e he => h.2 e (p.mem_iff.2 he)⟩
theorem Own.cast {H : Heap} {cs cs' : List (List Ent)} {F F' : List Ent} (h : Own H cs F) (p : cs.flatten ++ F = cs'.flatten ++ F') : Own H cs' F' := h.perm (p ▸ .refl _)
theorem Own.blk {H : Heap} {cs : List (List Ent)} {F : List Ent} {T b : Nat} {l : List Value} (h : Own H cs F) (hm : cellE T b l ∈ cs) : Blk H b l :=
  ⟨T, h.2 (b, .cells ⟨l⟩ T (0, 0)) (List.mem_append_left _ (List.mem_flatten.2 ⟨_, hm, by simp [cellE]⟩))⟩
theorem own_mid {pre cs : List (List Ent)} {c : List Ent} {F : List Ent} : ((pre ++ c :: cs).flatten ++ F).Perm ((c :: (pre ++ cs)).flatten ++ F) := by
  apply List.Perm.append_right
  simp only [List.flatten_append, List.flatten_cons]
  rw [← List.append_assoc, ← List.append_assoc]
  exact List.Perm.append_right _ List.perm_append_comm
section
variable {H H' : Heap} {cs : List (List Ent)} {c : List Ent} {F : List Ent} {T b o : Nat} {v : Value} {vs l l' : List Value}
theorem own_pull (pre : List (List Ent)) (h : Own H (pre ++ c :: cs) F) : Own H (c :: (pre ++ cs)) F := h.perm own_mid
theorem own_push (pre : List (List Ent)) (h : Own H (c :: (pre ++ cs)) F) : Own H (pre ++ c :: cs) F := h.perm own_mid.symm
theorem own_drop (pre : List (List Ent)) (h : Own H (pre ++ c :: cs) F) : Own H (pre ++ cs) F := by
  have h := own_pull pre h
  refine ⟨?_, fun e he => h.2 e ?_⟩
  · have := h.1
    simp only [List.flatten_cons, List.append_assoc, List.map_append] at this ⊢
    exact (List.nodup_append.1 this).2.1
  · simp only [List.flatten_cons, List.append_assoc]
    exact List.mem_append_right _ he
theorem own_fr (pre : List (List Ent)) (h : Own H (pre ++ cs) F) : Own H pre (cs.flatten ++ F) := h.cast (by simp)
theorem own_un (pre : List (List Ent)) (h : Own H pre (cs.flatten ++ F)) : Own H (pre ++ cs) F := h.cast (by simp)
theorem own_new {x : Array Value} (h : Own H cs F) (e : H' = H.push (.cells x T)) (ex : x = ⟨l⟩) : Own H' (cellE T H.size l :: cs) F := by
  subst e; subst ex
  have hb : ∀ e ∈ cs.flatten ++ F, e.1 < H.size := fun e he => (Array.getElem?_eq_some_iff.1 (h.2 e he)).1
  refine ⟨?_, fun e he => ?_⟩
  · simp only [List.flatten_cons, cellE, List.cons_append, List.nil_append, List.map_cons, List.nodup_cons]
    refine ⟨fun hm => ?_, h.1⟩
    obtain ⟨e, he, h1⟩ := List.mem_map.1 hm
    have := hb e he
    omega
  · simp only [List.flatten_cons, cellE, List.cons_append, List.nil_append, List.mem_cons] at he
    rcases he with rfl | he
    · simp
    · rw [Array.getElem?_push, if_neg (by have := hb e he; omega)]
      exact h.2 e he
theorem own_frontset (h : Own H (cellE T b l :: cs) F) (e : H' = hset H b o v) (el : l.set o v = l') : Own H' (cellE T b l' :: cs) F := by
  subst e; subst el
  obtain ⟨h1, h2⟩ := h
  simp only [List.flatten_cons, cellE, List.cons_append, List.nil_append, List.map_cons, List.nodup_cons] at h1 h2
  refine ⟨?_, fun e he => ?_⟩
  · simp only [List.flatten_cons, cellE, List.cons_append, List.nil_append, List.map_cons, List.nodup_cons]
    exact h1
  · simp only [List.flatten_cons, cellE, List.cons_append, List.nil_append, List.mem_cons] at he
    rcases he with rfl | he
    · rw [hset_get H b o v _ T (0, 0) (h2 _ (List.mem_cons_self ..))]
      simp
    · rw [hset_other]
      · exact h2 e (List.mem_cons_of_mem _ he)
      · intro hh
        exact h1.1 (List.mem_map.2 ⟨e, he, hh⟩)
theorem own_frontsets (vs : List Value) : ∀ {H H' : Heap} {l : List Value} {o : Nat}, Own H (cellE T b l :: cs) F → H' = hsets H b o vs → putRow l o vs = l' → Own H' (cellE T b l' :: cs) F := by
  induction vs with
  | nil => intro H H' l o h e el; subst e; subst el; exact h
  | cons v vs ih =>
    intro H H' l o h e el
    rw [hsets_cons] at e
    exact ih (own_frontset h rfl rfl) e el
theorem own_set (pre : List (List Ent)) (h : Own H (pre ++ cellE T b l :: cs) F) (e : H' = hset H b o v) (el : l.set o v = l') : Own H' (pre ++ cellE T b l' :: cs) F :=
  own_push pre (own_frontset (own_pull pre h) e el)
theorem own_sets (pre : List (List Ent)) (h : Own H (pre ++ cellE T b l :: cs) F) (e : H' = hsets H b o vs) (el : putRow l o vs = l') : Own H' (pre ++ cellE T b l' :: cs) F :=
  own_push pre (own_frontsets vs (own_pull pre h) e el)
theorem os0 (h : Own H (cellE T b l :: cs) F) (e : H' = hset H b o v) (el : l.set o v = l') : Own H' (cellE T b l' :: cs) F := own_set [] h e el
theorem oz0 (h : Own H (cellE T b l :: cs) F) (e : H' = hsets H b o vs) (el : putRow l o vs = l') : Own H' (cellE T b l' :: cs) F := own_sets [] h e el
theorem pu0 { c : List Ent} (h : Own H (c :: cs) F) : Own H (c :: cs) F := own_pull [] h
theorem pb0 { c : List Ent} (h : Own H (c :: cs) F) : Own H (c :: cs) F := own_push [] h
theorem dr0 { c : List Ent} (h : Own H (c :: cs) F) : Own H (cs) F := own_drop [] h
theorem fr0 (h : Own H (cs) F) : Own H [] (cs.flatten ++ F) := own_fr [] h
theorem un0 (h : Own H [] (cs.flatten ++ F)) : Own H (cs) F := own_un [] h
theorem os1 {c0 : List Ent} (h : Own H (c0 :: cellE T b l :: cs) F) (e : H' = hset H b o v) (el : l.set o v = l') : Own H' (c0 :: cellE T b l' :: cs) F := own_set [c0] h e el
theorem oz1 {c0 : List Ent} (h : Own H (c0 :: cellE T b l :: cs) F) (e : H' = hsets H b o vs) (el : putRow l o vs = l') : Own H' (c0 :: cellE T b l' :: cs) F := own_sets [c0] h e el
theorem pu1 {c0 c : List Ent} (h : Own H (c0 :: c :: cs) F) : Own H (c :: c0 :: cs) F := own_pull [c0] h
theorem pb1 {c0 c : List Ent} (h : Own H (c :: c0 :: cs) F) : Own H (c0 :: c :: cs) F := own_push [c0] h
theorem dr1 {c0 c : List Ent} (h : Own H (c0 :: c :: cs) F) : Own H (c0 :: cs) F := own_drop [c0] h
theorem fr1 {c0 : List Ent} (h : Own H (c0 :: cs) F) : Own H [c0] (cs.flatten ++ F) := own_fr [c0] h
theorem un1 {c0 : List Ent} (h : Own H [c0] (cs.flatten ++ F)) : Own H (c0 :: cs) F := own_un [c0] h
theorem os2 {c0 c1 : List Ent} (h : Own H (c0 :: c1 :: cellE T b l :: cs) F) (e : H' = hset H b o v) (el : l.set o v = l') : Own H' (c0 :: c1 :: cellE T b l' :: cs) F := own_set [c0, c1] h e el
theorem oz2 {c0 c1 : List Ent} (h : Own H (c0 :: c1 :: cellE T b l :: cs) F) (e : H' = hsets H b o vs) (el : putRow l o vs = l') : Own H' (c0 :: c1 :: cellE T b l' :: cs) F := own_sets [c0, c1] h e el
theorem pu2 {c0 c1 c : List Ent} (h : Own H (c0 :: c1 :: c :: cs) F) : Own H (c :: c0 :: c1 :: cs) F := own_pull [c0, c1] h
theorem pb2 {c0 c1 c : List Ent} (h : Own H (c :: c0 :: c1 :: cs) F) : Own H (c0 :: c1 :: c :: cs) F := own_push [c0, c1] h
theorem dr2 {c0 c1 c : List Ent} (h : Own H (c0 :: c1 :: c :: cs) F) : Own H (c0 :: c1 :: cs) F := own_drop [c0, c1] h
theorem fr2 {c0 c1 : List Ent} (h : Own H (c0 :: c1 :: cs) F) : Own H [c0, c1] (cs.flatten ++ F) := own_fr [c0, c1] h
theorem un2 {c0 c1 : List Ent} (h : Own H [c0, c1] (cs.flatten ++ F)) : Own H (c0 :: c1 :: cs) F := own_un [c0, c1] h
theorem os3 {c0 c1 c2 : List Ent} (h : Own H (c0 :: c1 :: c2 :: cellE T b l :: cs) F) (e : H' = hset H b o v) (el : l.set o v = l') : Own H' (c0 :: c1 :: c2 :: cellE T b l' :: cs) F := own_set [c0, c1, c2] h e el
theorem oz3 {c0 c1 c2 : List Ent} (h : Own H (c0 :: c1 :: c2 :: cellE T b l :: cs) F) (e : H' = hsets H b o vs) (el : putRow l o vs = l') : Own H' (c0 :: c1 :: c2 :: cellE T b l' :: cs) F := own_sets [c0, c1, c2] h e el
theorem pu3 {c0 c1 c2 c : List Ent} (h : Own H (c0 :: c1 :: c2 :: c :: cs) F) : Own H (c :: c0 :: c1 :: c2 :: cs) F := own_pull [c0, c1, c2] h
theorem pb3 {c0 c1 c2 c : List Ent} (h : Own H (c :: c0 :: c1 :: c2 :: cs) F) : Own H (c0 :: c1 :: c2 :: c :: cs) F := own_push [c0, c1, c2] h
theorem dr3 {c0 c1 c2 c : List Ent} (h : Own H (c0 :: c1 :: c2 :: c :: cs) F) : Own H (c0 :: c1 :: c2 :: cs) F := own_drop [c0, c1, c2] h
theorem fr3 {c0 c1 c2 : List Ent} (h : Own H (c0 :: c1 :: c2 :: cs) F) : Own H [c0, c1, c2] (cs.flatten ++ F) := own_fr [c0, c1, c2] h
theorem un3 {c0 c1 c2 : List Ent} (h : Own H [c0, c1, c2] (cs.flatten ++ F)) : Own H (c0 :: c1 :: c2 :: cs) F := own_un [c0, c1, c2] h
theorem os4 {c0 c1 c2 c3 : List Ent} (h : Own H (c0 :: c1 :: c2 :: c3 :: cellE T b l :: cs) F) (e : H' = hset H b o v) (el : l.set o v = l') : Own H' (c0 :: c1 :: c2 :: c3 :: cellE T b l' :: cs) F := own_set [c0, c1, c2, c3] h e el
theorem oz4 {c0 c1 c2 c3 : List Ent} (h : Own H (c0 :: c1 :: c2 :: c3 :: cellE T b l :: cs) F) (e : H' = hsets H b o vs) (el : putRow l o vs = l') : Own H' (c0 :: c1 :: c2 :: c3 :: cellE T b l' :: cs) F := own_sets [c0, c1, c2, c3] h e el
theorem pu4 {c0 c1 c2 c3 c : List Ent} (h : Own H (c0 :: c1 :: c2 :: c3 :: c :: cs) F) : Own H (c :: c0 :: c1 :: c2 :: c3 :: cs) F := own_pull [c0, c1, c2, c3] h
theorem pb4 {c0 c1 c2 c3 c : List Ent} (h : Own H (c :: c0 :: c1 :: c2 :: c3 :: cs) F) : Own H (c0 :: c1 :: c2 :: c3 :: c :: cs) F := own_push [c0, c1, c2, c3] h
theorem dr4 {c0 c1 c2 c3 c : List Ent} (h : Own H (c0 :: c1 :: c2 :: c3 :: c :: cs) F) : Own H (c0 :: c1 :: c2 :: c3 :: cs) F := own_drop [c0, c1, c2, c3] h
theorem fr4 {c0 c1 c2 c3 : List Ent} (h : Own H (c0 :: c1 :: c2 :: c3 :: cs) F) : Own H [c0, c1, c2, c3] (cs.flatten ++ F) := own_fr [c0, c1, c2, c3] h
theorem un4 {c0 c1 c2 c3 : List Ent} (h : Own H [c0, c1, c2, c3] (cs.flatten ++ F)) : Own H (c0 :: c1 :: c2 :: c3 :: cs) F := own_un [c0, c1, c2, c3] h
theorem os5 {c0 c1 c2 c3 c4 : List Ent} (h : Own H (c0 :: c1 :: c2 :: c3 :: c4 :: cellE T b l :: cs) F) (e : H' = hset H b o v) (el : l.set o v = l') : Own H' (c0 :: c1 :: c2 :: c3 :: c4 :: cellE T b l' :: cs) F := own_set [c0, c1, c2, c3, c4] h e el
theorem oz5 {c0 c1 c2 c3 c4 : List Ent} (h : Own H (c0 :: c1 :: c2 :: c3 :: c4 :: cellE T b l :: cs) F) (e : H' = hsets H b o vs) (el : putRow l o vs = l') : Own H' (c0 :: c1 :: c2 :: c3 :: c4 :: cellE T b l' :: cs) F := own_sets [c0, c1, c2, c3, c4] h e el
theorem pu5 {c0 c1 c2 c3 c4 c : List Ent} (h : Own H (c0 :: c1 :: c2 :: c3 :: c4 :: c :: cs) F) : Own H (c :: c0 :: c1 :: c2 :: c3 :: c4 :: cs) F := own_pull [c0, c1, c2, c3, c4] h
theorem pb5 {c0 c1 c2 c3 c4 c : List Ent} (h : Own H (c :: c0 :: c1 :: c2 :: c3 :: c4 :: cs) F) : Own H (c0 :: c1 :: c2 :: c3 :: c4 :: c :: cs) F := own_push [c0, c1, c2, c3, c4] h
theorem dr5 {c0 c1 c2 c3 c4 c : List Ent} (h : Own H (c0 :: c1 :: c2 :: c3 :: c4 :: c :: cs) F) : Own H (c0 :: c1 :: c2 :: c3 :: c4 :: cs) F := own_drop [c0, c1, c2, c3, c4] h
theorem fr5 {c0 c1 c2 c3 c4 : List Ent} (h : Own H (c0 :: c1 :: c2 :: c3 :: c4 :: cs) F) : Own H [c0, c1, c2, c3, c4] (cs.flatten ++ F) := own_fr [c0, c1, c2, c3, c4] h
theorem un5 {c0 c1 c2 c3 c4 : List Ent} (h : Own H [c0, c1, c2, c3, c4] (cs.flatten ++ F)) : Own H (c0 :: c1 :: c2 :: c3 :: c4 :: cs) F := own_un [c0, c1, c2, c3, c4] h
theorem os6 {c0 c1 c2 c3 c4 c5 : List Ent} (h : Own H (c0 :: c1 :: c2 :: c3 :: c4 :: c5 :: cellE T b l :: cs) F) (e : H' = hset H b o v) (el : l.set o v = l') : Own H' (c0 :: c1 :: c2 :: c3 :: c4 :: c5 :: cellE T b l' :: cs) F := own_set [c0, c1, c2, c3, c4, c5] h e el
theorem oz6 {c0 c1 c2 c3 c4 c5 : List Ent} (h : Own H (c0 :: c1 :: c2 :: c3 :: c4 :: c5 :: cellE T b l :: cs) F) (e : H' = hsets H b o vs) (el : putRow l o vs = l') : Own H' (c0 :: c1 :: c2 :: c3 :: c4 :: c5 :: cellE T b l' :: cs) F := own_sets [c0, c1, c2, c3, c4, c5] h e el
theorem pu6 {c0 c1 c2 c3 c4 c5 c : List Ent} (h : Own H (c0 :: c1 :: c2 :: c3 :: c4 :: c5 :: c :: cs) F) : Own H (c :: c0 :: c1 :: c2 :: c3 :: c4 :: c5 :: cs) F := own_pull [c0, c1, c2, c3, c4, c5] h
theorem pb6 {c0 c1 c2 c3 c4 c5 c : List Ent} (h : Own H (c :: c0 :: c1 :: c2 :: c3 :: c4 :: c5 :: cs) F) : Own H (c0 :: c1 :: c2 :: c3 :: c4 :: c5 :: c :: cs) F := own_push [c0, c1, c2, c3, c4, c5] h
theorem dr6 {c0 c1 c2 c3 c4 c5 c : List Ent} (h : Own H (c0 :: c1 :: c2 :: c3 :: c4 :: c5 :: c :: cs) F) : Own H (c0 :: c1 :: c2 :: c3 :: c4 :: c5 :: cs) F := own_drop [c0, c1, c2, c3, c4, c5] h
theorem fr6 {c0 c1 c2 c3 c4 c5 : List Ent} (h : Own H (c0 :: c1 :: c2 :: c3 :: c4 :: c5 :: cs) F) : Own H [c0, c1, c2, c3, c4, c5] (cs.flatten ++ F) := own_fr [c0, c1, c2, c3, c4, c5] h
theorem un6 {c0 c1 c2 c3 c4 c5 : List Ent} (h : Own H [c0, c1, c2, c3, c4, c5] (cs.flatten ++ F)) : Own H (c0 :: c1 :: c2 :: c3 :: c4 :: c5 :: cs) F := own_un [c0, c1, c2, c3, c4, c5] h
theorem os7 {c0 c1 c2 c3 c4 c5 c6 : List Ent} (h : Own H (c0 :: c1 :: c2 :: c3 :: c4 :: c5 :: c6 :: cellE T b l :: cs) F) (e : H' = hset H b o v) (el : l.set o v = l') : Own H' (c0 :: c1 :: c2 :: c3 :: c4 :: c5 :: c6 :: cellE T b l' :: cs) F := own_set [c0, c1, c2, c3, c4, c5, c6] h e el
theorem oz7 {c0 c1 c2 c3 c4 c5 c6 : List Ent} (h : Own H (c0 :: c1 :: c2 :: c3 :: c4 :: c5 :: c6 :: cellE T b l :: cs) F) (e : H' = hsets H b o vs) (el : putRow l o vs = l') : Own H' (c0 :: c1 :: c2 :: c3 :: c4 :: c5 :: c6 :: cellE T b l' :: cs) F := own_sets [c0, c1, c2, c3, c4, c5, c6] h e el
theorem pu7 {c0 c1 c2 c3 c4 c5 c6 c : List Ent} (h : Own H (c0 :: c1 :: c2 :: c3 :: c4 :: c5 :: c6 :: c :: cs) F) : Own H (c :: c0 :: c1 :: c2 :: c3 :: c4 :: c5 :: c6 :: cs) F := own_pull [c0, c1, c2, c3, c4, c5, c6] h
theorem pb7 {c0 c1 c2 c3 c4 c5 c6 c : List Ent} (h : Own H (c :: c0 :: c1 :: c2 :: c3 :: c4 :: c5 :: c6 :: cs) F) : Own H (c0 :: c1 :: c2 :: c3 :: c4 :: c5 :: c6 :: c :: cs) F := own_push [c0, c1, c2, c3, c4, c5, c6] h
theorem dr7 {c0 c1 c2 c3 c4 c5 c6 c : List Ent} (h : Own H (c0 :: c1 :: c2 :: c3 :: c4 :: c5 :: c6 :: c :: cs) F) : Own H (c0 :: c1 :: c2 :: c3 :: c4 :: c5 :: c6 :: cs) F := own_drop [c0, c1, c2, c3, c4, c5, c6] h
theorem fr7 {c0 c1 c2 c3 c4 c5 c6 : List Ent} (h : Own H (c0 :: c1 :: c2 :: c3 :: c4 :: c5 :: c6 :: cs) F) : Own H [c0, c1, c2, c3, c4, c5, c6] (cs.flatten ++ F) := own_fr [c0, c1, c2, c3, c4, c5, c6] h
theorem un7 {c0 c1 c2 c3 c4 c5 c6 : List Ent} (h : Own H [c0, c1, c2, c3, c4, c5, c6] (cs.flatten ++ F)) : Own H (c0 :: c1 :: c2 :: c3 :: c4 :: c5 :: c6 :: cs) F := own_un [c0, c1, c2, c3, c4, c5, c6] h
theorem os8 {c0 c1 c2 c3 c4 c5 c6 c7 : List Ent} (h : Own H (c0 :: c1 :: c2 :: c3 :: c4 :: c5 :: c6 :: c7 :: cellE T b l :: cs) F) (e : H' = hset H b o v) (el : l.set o v = l') : Own H' (c0 :: c1 :: c2 :: c3 :: c4 :: c5 :: c6 :: c7 :: cellE T b l' :: cs) F := own_set [c0, c1, c2, c3, c4, c5, c6, c7] h e el
theorem oz8 {c0 c1 c2 c3 c4 c5 c6 c7 : List Ent} (h : Own H (c0 :: c1 :: c2 :: c3 :: c4 :: c5 :: c6 :: c7 :: cellE T b l :: cs) F) (e : H' = hsets H b o vs) (el : putRow l o vs = l') : Own H' (c0 :: c1 :: c2 :: c3 :: c4 :: c5 :: c6 :: c7 :: cellE T b l' :: cs) F := own_sets [c0, c1, c2, c3, c4, c5, c6, c7] h e el
theorem pu8 {c0 c1 c2 c3 c4 c5 c6 c7 c : List Ent} (h : Own H (c0 :: c1 :: c2 :: c3 :: c4 :: c5 :: c6 :: c7 :: c :: cs) F) : Own H (c :: c0 :: c1 :: c2 :: c3 :: c4 :: c5 :: c6 :: c7 :: cs) F := own_pull [c0, c1, c2, c3, c4, c5, c6, c7] h
theorem pb8 {c0 c1 c2 c3 c4 c5 c6 c7 c : List Ent} (h : Own H (c :: c0 :: c1 :: c2 :: c3 :: c4 :: c5 :: c6 :: c7 :: cs) F) : Own H (c0 :: c1 :: c2 :: c3 :: c4 :: c5 :: c6 :: c7 :: c :: cs) F := own_push [c0, c1, c2, c3, c4, c5, c6, c7] h
theorem dr8 {c0 c1 c2 c3 c4 c5 c6 c7 c : List Ent} (h : Own H (c0 :: c1 :: c2 :: c3 :: c4 :: c5 :: c6 :: c7 :: c :: cs) F) : Own H (c0 :: c1 :: c2 :: c3 :: c4 :: c5 :: c6 :: c7 :: cs) F := own_drop [c0, c1, c2, c3, c4, c5, c6, c7] h
theorem fr8 {c0 c1 c2 c3 c4 c5 c6 c7 : List Ent} (h : Own H (c0 :: c1 :: c2 :: c3 :: c4 :: c5 :: c6 :: c7 :: cs) F) : Own H [c0, c1, c2, c3, c4, c5, c6, c7] (cs.flatten ++ F) := own_fr [c0, c1, c2, c3, c4, c5, c6, c7] h
theorem un8 {c0 c1 c2 c3 c4 c5 c6 c7 : List Ent} (h : Own H [c0, c1, c2, c3, c4, c5, c6, c7] (cs.flatten ++ F)) : Own H (c0 :: c1 :: c2 :: c3 :: c4 :: c5 :: c6 :: c7 :: cs) F := own_un [c0, c1, c2, c3, c4, c5, c6, c7] h
theorem os9 {c0 c1 c2 c3 c4 c5 c6 c7 c8 : List Ent} (h : Own H (c0 :: c1 :: c2 :: c3 :: c4 :: c5 :: c6 :: c7 :: c8 :: cellE T b l :: cs) F) (e : H' = hset H b o v) (el : l.set o v = l') : Own H' (c0 :: c1 :: c2 :: c3 :: c4 :: c5 :: c6 :: c7 :: c8 :: cellE T b l' :: cs) F := own_set [c0, c1, c2, c3, c4, c5, c6, c7, c8] h e el
theorem oz9 {c0 c1 c2 c3 c4 c5 c6 c7 c8 : List Ent} (h : Own H (c0 :: c1 :: c2 :: c3 :: c4 :: c5 :: c6 :: c7 :: c8 :: cellE T b l :: cs) F) (e : H' = hsets H b o vs) (el : putRow l o vs = l') : Own H' (c0 :: c1 :: c2 :: c3 :: c4 :: c5 :: c6 :: c7 :: c8 :: cellE T b l' :: cs) F := own_sets [c0, c1, c2, c3, c4, c5, c6, c7, c8] h e el
theorem pu9 {c0 c1 c2 c3 c4 c5 c6 c7 c8 c : List Ent} (h : Own H (c0 :: c1 :: c2 :: c3 :: c4 :: c5 :: c6 :: c7 :: c8 :: c :: cs) F) : Own H (c :: c0 :: c1 :: c2 :: c3 :: c4 :: c5 :: c6 :: c7 :: c8 :: cs) F := own_pull [c0, c1, c2, c3, c4, c5, c6, c7, c8] h
theorem pb9 {c0 c1 c2 c3 c4 c5 c6 c7 c8 c : List Ent} (h : Own H (c :: c0 :: c1 :: c2 :: c3 :: c4 :: c5 :: c6 :: c7 :: c8 :: cs) F) : Own H (c0 :: c1 :: c2 :: c3 :: c4 :: c5 :: c6 :: c7 :: c8 :: c :: cs) F := own_push [c0, c1, c2, c3, c4, c5, c6, c7, c8] h
theorem dr9 {c0 c1 c2 c3 c4 c5 c6 c7 c8 c : List Ent} (h : Own H (c0 :: c1 :: c2 :: c3 :: c4 :: c5 :: c6 :: c7 :: c8 :: c :: cs) F) : Own H (c0 :: c1 :: c2 :: c3 :: c4 :: c5 :: c6 :: c7 :: c8 :: cs) F := own_drop [c0, c1, c2, c3, c4, c5, c6, c7, c8] h
theorem fr9 {c0 c1 c2 c3 c4 c5 c6 c7 c8 : List Ent} (h : Own H (c0 :: c1 :: c2 :: c3 :: c4 :: c5 :: c6 :: c7 :: c8 :: cs) F) : Own H [c0, c1, c2, c3, c4, c5, c6, c7, c8] (cs.flatten ++ F) := own_fr [c0, c1, c2, c3, c4, c5, c6, c7, c8] h
theorem un9 {c0 c1 c2 c3 c4 c5 c6 c7 c8 : List Ent} (h : Own H [c0, c1, c2, c3, c4, c5, c6, c7, c8] (cs.flatten ++ F)) : Own H (c0 :: c1 :: c2 :: c3 :: c4 :: c5 :: c6 :: c7 :: c8 :: cs) F := own_un [c0, c1, c2, c3, c4, c5, c6, c7, c8] h
theorem os10 {c0 c1 c2 c3 c4 c5 c6 c7 c8 c9 : List Ent} (h : Own H (c0 :: c1 :: c2 :: c3 :: c4 :: c5 :: c6 :: c7 :: c8 :: c9 :: cellE T b l :: cs) F) (e : H' = hset H b o v) (el : l.set o v = l') : Own H' (c0 :: c1 :: c2 :: c3 :: c4 :: c5 :: c6 :: c7 :: c8 :: c9 :: cellE T b l' :: cs) F := own_set [c0, c1, c2, c3, c4, c5, c6, c7, c8, c9] h e el
theorem oz10 {c0 c1 c2 c3 c4 c5 c6 c7 c8 c9 : List Ent} (h : Own H (c0 :: c1 :: c2 :: c3 :: c4 :: c5 :: c6 :: c7 :: c8 :: c9 :: cellE T b l :: cs) F) (e : H' = hsets H b o vs) (el : putRow l o vs = l') : Own H' (c0 :: c1 :: c2 :: c3 :: c4 :: c5 :: c6 :: c7 :: c8 :: c9 :: cellE T b l' :: cs) F := own_sets [c0, c1, c2, c3, c4, c5, c6, c7, c8, c9] h e el
theorem pu10 {c0 c1 c2 c3 c4 c5 c6 c7 c8 c9 c : List Ent} (h : Own H (c0 :: c1 :: c2 :: c3 :: c4 :: c5 :: c6 :: c7 :: c8 :: c9 :: c :: cs) F) : Own H (c :: c0 :: c1 :: c2 :: c3 :: c4 :: c5 :: c6 :: c7 :: c8 :: c9 :: cs) F := own_pull [c0, c1, c2, c3, c4, c5, c6, c7, c8, c9] h
theorem pb10 {c0 c1 c2 c3 c4 c5 c6 c7 c8 c9 c : List Ent} (h : Own H (c :: c0 :: c1 :: c2 :: c3 :: c4 :: c5 :: c6 :: c7 :: c8 :: c9 :: cs) F) : Own H (c0 :: c1 :: c2 :: c3 :: c4 :: c5 :: c6 :: c7 :: c8 :: c9 :: c :: cs) F := own_push [c0, c1, c2, c3, c4, c5, c6, c7, c8, c9] h
theorem dr10 {c0 c1 c2 c3 c4 c5 c6 c7 c8 c9 c : List Ent} (h : Own H (c0 :: c1 :: c2 :: c3 :: c4 :: c5 :: c6 :: c7 :: c8 :: c9 :: c :: cs) F) : Own H (c0 :: c1 :: c2 :: c3 :: c4 :: c5 :: c6 :: c7 :: c8 :: c9 :: cs) F := own_drop [c0, c1, c2, c3, c4, c5, c6, c7, c8, c9] h
theorem fr10 {c0 c1 c2 c3 c4 c5 c6 c7 c8 c9 : List Ent} (h : Own H (c0 :: c1 :: c2 :: c3 :: c4 :: c5 :: c6 :: c7 :: c8 :: c9 :: cs) F) : Own H [c0, c1, c2, c3, c4, c5, c6, c7, c8, c9] (cs.flatten ++ F) := own_fr [c0, c1, c2, c3, c4, c5, c6, c7, c8, c9] h
theorem un10 {c0 c1 c2 c3 c4 c5 c6 c7 c8 c9 : List Ent} (h : Own H [c0, c1, c2, c3, c4, c5, c6, c7, c8, c9] (cs.flatten ++ F)) : Own H (c0 :: c1 :: c2 :: c3 :: c4 :: c5 :: c6 :: c7 :: c8 :: c9 :: cs) F := own_un [c0, c1, c2, c3, c4, c5, c6, c7, c8, c9] h
theorem os11 {c0 c1 c2 c3 c4 c5 c6 c7 c8 c9 c10 : List Ent} (h : Own H (c0 :: c1 :: c2 :: c3 :: c4 :: c5 :: c6 :: c7 :: c8 :: c9 :: c10 :: cellE T b l :: cs) F) (e : H' = hset H b o v) (el : l.set o v = l') : Own H' (c0 :: c1 :: c2 :: c3 :: c4 :: c5 :: c6 :: c7 :: c8 :: c9 :: c10 :: cellE T b l' :: cs) F := own_set [c0, c1, c2, c3, c4, c5, c6, c7, c8, c9, c10] h e el
theorem oz11 {c0 c1 c2 c3 c4 c5 c6 c7 c8 c9 c10 : List Ent} (h : Own H (c0 :: c1 :: c2 :: c3 :: c4 :: c5 :: c6 :: c7 :: c8 :: c9 :: c10 :: cellE T b l :: cs) F) (e : H' = hsets H b o vs) (el : putRow l o vs = l') : Own H' (c0 :: c1 :: c2 :: c3 :: c4 :: c5 :: c6 :: c7 :: c8 :: c9 :: c10 :: cellE T b l' :: cs) F := own_sets [c0, c1, c2, c3, c4, c5, c6, c7, c8, c9, c10] h e el
theorem pu11 {c0 c1 c2 c3 c4 c5 c6 c7 c8 c9 c10 c : List Ent} (h : Own H (c0 :: c1 :: c2 :: c3 :: c4 :: c5 :: c6 :: c7 :: c8 :: c9 :: c10 :: c :: cs) F) : Own H (c :: c0 :: c1 :: c2 :: c3 :: c4 :: c5 :: c6 :: c7 :: c8 :: c9 :: c10 :: cs) F := own_pull [c0, c1, c2, c3, c4, c5, c6, c7, c8, c9, c10] h
theorem pb11 {c0 c1 c2 c3 c4 c5 c6 c7 c8 c9 c10 c : List Ent} (h : Own H (c :: c0 :: c1 :: c2 :: c3 :: c4 :: c5 :: c6 :: c7 :: c8 :: c9 :: c10 :: cs) F) : Own H (c0 :: c1 :: c2 :: c3 :: c4 :: c5 :: c6 :: c7 :: c8 :: c9 :: c10 :: c :: cs) F := own_push [c0, c1, c2, c3, c4, c5, c6, c7, c8, c9, c10] h
theorem dr11 {c0 c1 c2 c3 c4 c5 c6 c7 c8 c9 c10 c : List Ent} (h : Own H (c0 :: c1 :: c2 :: c3 :: c4 :: c5 :: c6 :: c7 :: c8 :: c9 :: c10 :: c :: cs) F) : Own H (c0 :: c1 :: c2 :: c3 :: c4 :: c5 :: c6 :: c7 :: c8 :: c9 :: c10 :: cs) F := own_drop [c0, c1, c2, c3, c4, c5, c6, c7, c8, c9, c10] h
theorem fr11 {c0 c1 c2 c3 c4 c5 c6 c7 c8 c9 c10 : List Ent} (h : Own H (c0 :: c1 :: c2 :: c3 :: c4 :: c5 :: c6 :: c7 :: c8 :: c9 :: c10 :: cs) F) : Own H [c0, c1, c2, c3, c4, c5, c6, c7, c8, c9, c10] (cs.flatten ++ F) := own_fr [c0, c1, c2, c3, c4, c5, c6, c7, c8, c9, c10] h
theorem un11 {c0 c1 c2 c3 c4 c5 c6 c7 c8 c9 c10 : List Ent} (h : Own H [c0, c1, c2, c3, c4, c5, c6, c7, c8, c9, c10] (cs.flatten ++ F)) : Own H (c0 :: c1 :: c2 :: c3 :: c4 :: c5 :: c6 :: c7 :: c8 :: c9 :: c10 :: cs) F := own_un [c0, c1, c2, c3, c4, c5, c6, c7, c8, c9, c10] h
theorem os12 {c0 c1 c2 c3 c4 c5 c6 c7 c8 c9 c10 c11 : List Ent} (h : Own H (c0 :: c1 :: c2 :: c3 :: c4 :: c5 :: c6 :: c7 :: c8 :: c9 :: c10 :: c11 :: cellE T b l :: cs) F) (e : H' = hset H b o v) (el : l.set o v = l') : Own H' (c0 :: c1 :: c2 :: c3 :: c4 :: c5 :: c6 :: c7 :: c8 :: c9 :: c10 :: c11 :: cellE T b l' :: cs) F := own_set [c0, c1, c2, c3, c4, c5, c6, c7, c8, c9, c10, c11] h e el
theorem oz12 {c0 c1 c2 c3 c4 c5 c6 c7 c8 c9 c10 c11 : List Ent} (h : Own H (c0 :: c1 :: c2 :: c3 :: c4 :: c5 :: c6 :: c7 :: c8 :: c9 :: c10 :: c11 :: cellE T b l :: cs) F) (e : H' = hsets H b o vs) (el : putRow l o vs = l') : Own H' (c0 :: c1 :: c2 :: c3 :: c4 :: c5 :: c6 :: c7 :: c8 :: c9 :: c10 :: c11 :: cellE T b l' :: cs) F := own_sets [c0, c1, c2, c3, c4, c5, c6, c7, c8, c9, c10, c11] h e el
theorem pu12 {c0 c1 c2 c3 c4 c5 c6 c7 c8 c9 c10 c11 c : List Ent} (h : Own H (c0 :: c1 :: c2 :: c3 :: c4 :: c5 :: c6 :: c7 :: c8 :: c9 :: c10 :: c11 :: c :: cs) F) : Own H (c :: c0 :: c1 :: c2 :: c3 :: c4 :: c5 :: c6 :: c7 :: c8 :: c9 :: c10 :: c11 :: cs) F := own_pull [c0, c1, c2, c3, c4, c5, c6, c7, c8, c9, c10, c11] h
theorem pb12 {c0 c1 c2 c3 c4 c5 c6 c7 c8 c9 c10 c11 c : List Ent} (h : Own H (c :: c0 :: c1 :: c2 :: c3 :: c4 :: c5 :: c6 :: c7 :: c8 :: c9 :: c10 :: c11 :: cs) F) : Own H (c0 :: c1 :: c2 :: c3 :: c4 :: c5 :: c6 :: c7 :: c8 :: c9 :: c10 :: c11 :: c :: cs) F := own_push [c0, c1, c2, c3, c4, c5, c6, c7, c8, c9, c10, c11] h
theorem dr12 {c0 c1 c2 c3 c4 c5 c6 c7 c8 c9 c10 c11 c : List Ent} (h : Own H (c0 :: c1 :: c2 :: c3 :: c4 :: c5 :: c6 :: c7 :: c8 :: c9 :: c10 :: c11 :: c :: cs) F) : Own H (c0 :: c1 :: c2 :: c3 :: c4 :: c5 :: c6 :: c7 :: c8 :: c9 :: c10 :: c11 :: cs) F := own_drop [c0, c1, c2, c3, c4, c5, c6, c7, c8, c9, c10, c11] h
theorem fr12 {c0 c1 c2 c3 c4 c5 c6 c7 c8 c9 c10 c11 : List Ent} (h : Own H (c0 :: c1 :: c2 :: c3 :: c4 :: c5 :: c6 :: c7 :: c8 :: c9 :: c10 :: c11 :: cs) F) : Own H [c0, c1, c2, c3, c4, c5, c6, c7, c8, c9, c10, c11] (cs.flatten ++ F) := own_fr [c0, c1, c2, c3, c4, c5, c6, c7, c8, c9, c10, c11] h
theorem un12 {c0 c1 c2 c3 c4 c5 c6 c7 c8 c9 c10 c11 : List Ent} (h : Own H [c0, c1, c2, c3, c4, c5, c6, c7, c8, c9, c10, c11] (cs.flatten ++ F)) : Own H (c0 :: c1 :: c2 :: c3 :: c4 :: c5 :: c6 :: c7 :: c8 :: c9 :: c10 :: c11 :: cs) F := own_un [c0, c1, c2, c3, c4, c5, c6, c7, c8, c9, c10, c11] h
theorem os13 {c0 c1 c2 c3 c4 c5 c6 c7 c8 c9 c10 c11 c12 : List Ent} (h : Own H (c0 :: c1 :: c2 :: c3 :: c4 :: c5 :: c6 :: c7 :: c8 :: c9 :: c10 :: c11 :: c12 :: cellE T b l :: cs) F) (e : H' = hset H b o v) (el : l.set o v = l') : Own H' (c0 :: c1 :: c2 :: c3 :: c4 :: c5 :: c6 :: c7 :: c8 :: c9 :: c10 :: c11 :: c12 :: cellE T b l' :: cs) F := own_set [c0, c1, c2, c3, c4, c5, c6, c7, c8, c9, c10, c11, c12] h e el
theorem oz13 {c0 c1 c2 c3 c4 c5 c6 c7 c8 c9 c10 c11 c12 : List Ent} (h : Own H (c0 :: c1 :: c2 :: c3 :: c4 :: c5 :: c6 :: c7 :: c8 :: c9 :: c10 :: c11 :: c12 :: cellE T b l :: cs) F) (e : H' = hsets H b o vs) (el : putRow l o vs = l') : Own H' (c0 :: c1 :: c2 :: c3 :: c4 :: c5 :: c6 :: c7 :: c8 :: c9 :: c10 :: c11 :: c12 :: cellE T b l' :: cs) F := own_sets [c0, c1, c2, c3, c4, c5, c6, c7, c8, c9, c10, c11, c12] h e el
theorem pu13 {c0 c1 c2 c3 c4 c5 c6 c7 c8 c9 c10 c11 c12 c : List Ent} (h : Own H (c0 :: c1 :: c2 :: c3 :: c4 :: c5 :: c6 :: c7 :: c8 :: c9 :: c10 :: c11 :: c12 :: c :: cs) F) : Own H (c :: c0 :: c1 :: c2 :: c3 :: c4 :: c5 :: c6 :: c7 :: c8 :: c9 :: c10 :: c11 :: c12 :: cs) F := own_pull [c0, c1, c2, c3, c4, c5, c6, c7, c8, c9, c10, c11, c12] h
theorem pb13 {c0 c1 c2 c3 c4 c5 c6 c7 c8 c9 c10 c11 c12 c : List Ent} (h : Own H (c :: c0 :: c1 :: c2 :: c3 :: c4 :: c5 :: c6 :: c7 :: c8 :: c9 :: c10 :: c11 :: c12 :: cs) F) : Own H (c0 :: c1 :: c2 :: c3 :: c4 :: c5 :: c6 :: c7 :: c8 :: c9 :: c10 :: c11 :: c12 :: c :: cs) F := own_push [c0, c1, c2, c3, c4, c5, c6, c7, c8, c9, c10, c11, c12] h
theorem dr13 {c0 c1 c2 c3 c4 c5 c6 c7 c8 c9 c10 c11 c12 c : List Ent} (h : Own H (c0 :: c1 :: c2 :: c3 :: c4 :: c5 :: c6 :: c7 :: c8 :: c9 :: c10 :: c11 :: c12 :: c :: cs) F) : Own H (c0 :: c1 :: c2 :: c3 :: c4 :: c5 :: c6 :: c7 :: c8 :: c9 :: c10 :: c11 :: c12 :: cs) F := own_drop [c0, c1, c2, c3, c4, c5, c6, c7, c8, c9, c10, c11, c12] h
theorem fr13 {c0 c1 c2 c3 c4 c5 c6 c7 c8 c9 c10 c11 c12 : List Ent} (h : Own H (c0 :: c1 :: c2 :: c3 :: c4 :: c5 :: c6 :: c7 :: c8 :: c9 :: c10 :: c11 :: c12 :: cs) F) : Own H [c0, c1, c2, c3, c4, c5, c6, c7, c8, c9, c10, c11, c12] (cs.flatten ++ F) := own_fr [c0, c1, c2, c3, c4, c5, c6, c7, c8, c9, c10, c11, c12] h
theorem un13 {c0 c1 c2 c3 c4 c5 c6 c7 c8 c9 c10 c11 c12 : List Ent} (h : Own H [c0, c1, c2, c3, c4, c5, c6, c7, c8, c9, c10, c11, c12] (cs.flatten ++ F)) : Own H (c0 :: c1 :: c2 :: c3 :: c4 :: c5 :: c6 :: c7 :: c8 :: c9 :: c10 :: c11 :: c12 :: cs) F := own_un [c0, c1, c2, c3, c4, c5, c6, c7, c8, c9, c10, c11, c12] h
theorem os14 {c0 c1 c2 c3 c4 c5 c6 c7 c8 c9 c10 c11 c12 c13 : List Ent} (h : Own H (c0 :: c1 :: c2 :: c3 :: c4 :: c5 :: c6 :: c7 :: c8 :: c9 :: c10 :: c11 :: c12 :: c13 :: cellE T b l :: cs) F) (e : H' = hset H b o v) (el : l.set o v = l') : Own H' (c0 :: c1 :: c2 :: c3 :: c4 :: c5 :: c6 :: c7 :: c8 :: c9 :: c10 :: c11 :: c12 :: c13 :: cellE T b l' :: cs) F := own_set [c0, c1, c2, c3, c4, c5, c6, c7, c8, c9, c10, c11, c12, c13] h e el
theorem oz14 {c0 c1 c2 c3 c4 c5 c6 c7 c8 c9 c10 c11 c12 c13 : List Ent} (h : Own H (c0 :: c1 :: c2 :: c3 :: c4 :: c5 :: c6 :: c7 :: c8 :: c9 :: c10 :: c11 :: c12 :: c13 :: cellE T b l :: cs) F) (e : H' = hsets H b o vs) (el : putRow l o vs = l') : Own H' (c0 :: c1 :: c2 :: c3 :: c4 :: c5 :: c6 :: c7 :: c8 :: c9 :: c10 :: c11 :: c12 :: c13 :: cellE T b l' :: cs) F := own_sets [c0, c1, c2, c3, c4, c5, c6, c7, c8, c9, c10, c11, c12, c13] h e el
theorem pu14 {c0 c1 c2 c3 c4 c5 c6 c7 c8 c9 c10 c11 c12 c13 c : List Ent} (h : Own H (c0 :: c1 :: c2 :: c3 :: c4 :: c5 :: c6 :: c7 :: c8 :: c9 :: c10 :: c11 :: c12 :: c13 :: c :: cs) F) : Own H (c :: c0 :: c1 :: c2 :: c3 :: c4 :: c5 :: c6 :: c7 :: c8 :: c9 :: c10 :: c11 :: c12 :: c13 :: cs) F := own_pull [c0, c1, c2, c3, c4, c5, c6, c7, c8, c9, c10, c11, c12, c13] h
theorem pb14 {c0 c1 c2 c3 c4 c5 c6 c7 c8 c9 c10 c11 c12 c13 c : List Ent} (h : Own H (c :: c0 :: c1 :: c2 :: c3 :: c4 :: c5 :: c6 :: c7 :: c8 :: c9 :: c10 :: c11 :: c12 :: c13 :: cs) F) : Own H (c0 :: c1 :: c2 :: c3 :: c4 :: c5 :: c6 :: c7 :: c8 :: c9 :: c10 :: c11 :: c12 :: c13 :: c :: cs) F := own_push [c0, c1, c2, c3, c4, c5, c6, c7, c8, c9, c10, c11, c12, c13] h
theorem dr14 {c0 c1 c2 c3 c4 c5 c6 c7 c8 c9 c10 c11 c12 c13 c : List Ent} (h : Own H (c0 :: c1 :: c2 :: c3 :: c4 :: c5 :: c6 :: c7 :: c8 :: c9 :: c10 :: c11 :: c12 :: c13 :: c :: cs) F) : Own H (c0 :: c1 :: c2 :: c3 :: c4 :: c5 :: c6 :: c7 :: c8 :: c9 :: c10 :: c11 :: c12 :: c13 :: cs) F := own_drop [c0, c1, c2, c3, c4, c5, c6, c7, c8, c9, c10, c11, c12, c13] h
theorem fr14 {c0 c1 c2 c3 c4 c5 c6 c7 c8 c9 c10 c11 c12 c13 : List Ent} (h : Own H (c0 :: c1 :: c2 :: c3 :: c4 :: c5 :: c6 :: c7 :: c8 :: c9 :: c10 :: c11 :: c12 :: c13 :: cs) F) : Own H [c0, c1, c2, c3, c4, c5, c6, c7, c8, c9, c10, c11, c12, c13] (cs.flatten ++ F) := own_fr [c0, c1, c2, c3, c4, c5, c6, c7, c8, c9, c10, c11, c12, c13] h
theorem un14 {c0 c1 c2 c3 c4 c5 c6 c7 c8 c9 c10 c11 c12 c13 : List Ent} (h : Own H [c0, c1, c2, c3, c4, c5, c6, c7, c8, c9, c10, c11, c12, c13] (cs.flatten ++ F)) : Own H (c0 :: c1 :: c2 :: c3 :: c4 :: c5 :: c6 :: c7 :: c8 :: c9 :: c10 :: c11 :: c12 :: c13 :: cs) F := own_un [c0, c1, c2, c3, c4, c5, c6, c7, c8, c9, c10, c11, c12, c13] h
theorem os15 {c0 c1 c2 c3 c4 c5 c6 c7 c8 c9 c10 c11 c12 c13 c14 : List Ent} (h : Own H (c0 :: c1 :: c2 :: c3 :: c4 :: c5 :: c6 :: c7 :: c8 :: c9 :: c10 :: c11 :: c12 :: c13 :: c14 :: cellE T b l :: cs) F) (e : H' = hset H b o v) (el : l.set o v = l') : Own H' (c0 :: c1 :: c2 :: c3 :: c4 :: c5 :: c6 :: c7 :: c8 :: c9 :: c10 :: c11 :: c12 :: c13 :: c14 :: cellE T b l' :: cs) F := own_set [c0, c1, c2, c3, c4, c5, c6, c7, c8, c9, c10, c11, c12, c13, c14] h e el
theorem oz15 {c0 c1 c2 c3 c4 c5 c6 c7 c8 c9 c10 c11 c12 c13 c14 : List Ent} (h : Own H (c0 :: c1 :: c2 :: c3 :: c4 :: c5 :: c6 :: c7 :: c8 :: c9 :: c10 :: c11 :: c12 :: c13 :: c14 :: cellE T b l :: cs) F) (e : H' = hsets H b o vs) (el : putRow l o vs = l') : Own H' (c0 :: c1 :: c2 :: c3 :: c4 :: c5 :: c6 :: c7 :: c8 :: c9 :: c10 :: c11 :: c12 :: c13 :: c14 :: cellE T b l' :: cs) F := own_sets [c0, c1, c2, c3, c4, c5, c6, c7, c8, c9, c10, c11, c12, c13, c14] h e el
theorem pu15 {c0 c1 c2 c3 c4 c5 c6 c7 c8 c9 c10 c11 c12 c13 c14 c : List Ent} (h : Own H (c0 :: c1 :: c2 :: c3 :: c4 :: c5 :: c6 :: c7 :: c8 :: c9 :: c10 :: c11 :: c12 :: c13 :: c14 :: c :: cs) F) : Own H (c :: c0 :: c1 :: c2 :: c3 :: c4 :: c5 :: c6 :: c7 :: c8 :: c9 :: c10 :: c11 :: c12 :: c13 :: c14 :: cs) F := own_pull [c0, c1, c2, c3, c4, c5, c6, c7, c8, c9, c10, c11, c12, c13, c14] h
theorem pb15 {c0 c1 c2 c3 c4 c5 c6 c7 c8 c9 c10 c11 c12 c13 c14 c : List Ent} (h : Own H (c :: c0 :: c1 :: c2 :: c3 :: c4 :: c5 :: c6 :: c7 :: c8 :: c9 :: c10 :: c11 :: c12 :: c13 :: c14 :: cs) F) : Own H (c0 :: c1 :: c2 :: c3 :: c4 :: c5 :: c6 :: c7 :: c8 :: c9 :: c10 :: c11 :: c12 :: c13 :: c14 :: c :: cs) F := own_push [c0, c1, c2, c3, c4, c5, c6, c7, c8, c9, c10, c11, c12, c13, c14] h
theorem dr15 {c0 c1 c2 c3 c4 c5 c6 c7 c8 c9 c10 c11 c12 c13 c14 c : List Ent} (h : Own H (c0 :: c1 :: c2 :: c3 :: c4 :: c5 :: c6 :: c7 :: c8 :: c9 :: c10 :: c11 :: c12 :: c13 :: c14 :: c :: cs) F) : Own H (c0 :: c1 :: c2 :: c3 :: c4 :: c5 :: c6 :: c7 :: c8 :: c9 :: c10 :: c11 :: c12 :: c13 :: c14 :: cs) F := own_drop [c0, c1, c2, c3, c4, c5, c6, c7, c8, c9, c10, c11, c12, c13, c14] h
theorem fr15 {c0 c1 c2 c3 c4 c5 c6 c7 c8 c9 c10 c11 c12 c13 c14 : List Ent} (h : Own H (c0 :: c1 :: c2 :: c3 :: c4 :: c5 :: c6 :: c7 :: c8 :: c9 :: c10 :: c11 :: c12 :: c13 :: c14 :: cs) F) : Own H [c0, c1, c2, c3, c4, c5, c6, c7, c8, c9, c10, c11, c12, c13, c14] (cs.flatten ++ F) := own_fr [c0, c1, c2, c3, c4, c5, c6, c7, c8, c9, c10, c11, c12, c13, c14] h
theorem un15 {c0 c1 c2 c3 c4 c5 c6 c7 c8 c9 c10 c11 c12 c13 c14 : List Ent} (h : Own H [c0, c1, c2, c3, c4, c5, c6, c7, c8, c9, c10, c11, c12, c13, c14] (cs.flatten ++ F)) : Own H (c0 :: c1 :: c2 :: c3 :: c4 :: c5 :: c6 :: c7 :: c8 :: c9 :: c10 :: c11 :: c12 :: c13 :: c14 :: cs) F := own_un [c0, c1, c2, c3, c4, c5, c6, c7, c8, c9, c10, c11, c12, c13, c14] h
theorem os16 {c0 c1 c2 c3 c4 c5 c6 c7 c8 c9 c10 c11 c12 c13 c14 c15 : List Ent} (h : Own H (c0 :: c1 :: c2 :: c3 :: c4 :: c5 :: c6 :: c7 :: c8 :: c9 :: c10 :: c11 :: c12 :: c13 :: c14 :: c15 :: cellE T b l :: cs) F) (e : H' = hset H b o v) (el : l.set o v = l') : Own H' (c0 :: c1 :: c2 :: c3 :: c4 :: c5 :: c6 :: c7 :: c8 :: c9 :: c10 :: c11 :: c12 :: c13 :: c14 :: c15 :: cellE T b l' :: cs) F := own_set [c0, c1, c2, c3, c4, c5, c6, c7, c8, c9, c10, c11, c12, c13, c14, c15] h e el
theorem oz16 {c0 c1 c2 c3 c4 c5 c6 c7 c8 c9 c10 c11 c12 c13 c14 c15 : List Ent} (h : Own H (c0 :: c1 :: c2 :: c3 :: c4 :: c5 :: c6 :: c7 :: c8 :: c9 :: c10 :: c11 :: c12 :: c13 :: c14 :: c15 :: cellE T b l :: cs) F) (e : H' = hsets H b o vs) (el : putRow l o vs = l') : Own H' (c0 :: c1 :: c2 :: c3 :: c4 :: c5 :: c6 :: c7 :: c8 :: c9 :: c10 :: c11 :: c12 :: c13 :: c14 :: c15 :: cellE T b l' :: cs) F := own_sets [c0, c1, c2, c3, c4, c5, c6, c7, c8, c9, c10, c11, c12, c13, c14, c15] h e el
theorem pu16 {c0 c1 c2 c3 c4 c5 c6 c7 c8 c9 c10 c11 c12 c13 c14 c15 c : List Ent} (h : Own H (c0 :: c1 :: c2 :: c3 :: c4 :: c5 :: c6 :: c7 :: c8 :: c9 :: c10 :: c11 :: c12 :: c13 :: c14 :: c15 :: c :: cs) F) : Own H (c :: c0 :: c1 :: c2 :: c3 :: c4 :: c5 :: c6 :: c7 :: c8 :: c9 :: c10 :: c11 :: c12 :: c13 :: c14 :: c15 :: cs) F := own_pull [c0, c1, c2, c3, c4, c5, c6, c7, c8, c9, c10, c11, c12, c13, c14, c15] h
theorem pb16 {c0 c1 c2 c3 c4 c5 c6 c7 c8 c9 c10 c11 c12 c13 c14 c15 c : List Ent} (h : Own H (c :: c0 :: c1 :: c2 :: c3 :: c4 :: c5 :: c6 :: c7 :: c8 :: c9 :: c10 :: c11 :: c12 :: c13 :: c14 :: c15 :: cs) F) : Own H (c0 :: c1 :: c2 :: c3 :: c4 :: c5 :: c6 :: c7 :: c8 :: c9 :: c10 :: c11 :: c12 :: c13 :: c14 :: c15 :: c :: cs) F := own_push [c0, c1, c2, c3, c4, c5, c6, c7, c8, c9, c10, c11, c12, c13, c14, c15] h
theorem dr16 {c0 c1 c2 c3 c4 c5 c6 c7 c8 c9 c10 c11 c12 c13 c14 c15 c : List Ent} (h : Own H (c0 :: c1 :: c2 :: c3 :: c4 :: c5 :: c6 :: c7 :: c8 :: c9 :: c10 :: c11 :: c12 :: c13 :: c14 :: c15 :: c :: cs) F) : Own H (c0 :: c1 :: c2 :: c3 :: c4 :: c5 :: c6 :: c7 :: c8 :: c9 :: c10 :: c11 :: c12 :: c13 :: c14 :: c15 :: cs) F := own_drop [c0, c1, c2, c3, c4, c5, c6, c7, c8, c9, c10, c11, c12, c13, c14, c15] h
theorem fr16 {c0 c1 c2 c3 c4 c5 c6 c7 c8 c9 c10 c11 c12 c13 c14 c15 : List Ent} (h : Own H (c0 :: c1 :: c2 :: c3 :: c4 :: c5 :: c6 :: c7 :: c8 :: c9 :: c10 :: c11 :: c12 :: c13 :: c14 :: c15 :: cs) F) : Own H [c0, c1, c2, c3, c4, c5, c6, c7, c8, c9, c10, c11, c12, c13, c14, c15] (cs.flatten ++ F) := own_fr [c0, c1, c2, c3, c4, c5, c6, c7, c8, c9, c10, c11, c12, c13, c14, c15] h
theorem un16 {c0 c1 c2 c3 c4 c5 c6 c7 c8 c9 c10 c11 c12 c13 c14 c15 : List Ent} (h : Own H [c0, c1, c2, c3, c4, c5, c6, c7, c8, c9, c10, c11, c12, c13, c14, c15] (cs.flatten ++ F)) : Own H (c0 :: c1 :: c2 :: c3 :: c4 :: c5 :: c6 :: c7 :: c8 :: c9 :: c10 :: c11 :: c12 :: c13 :: c14 :: c15 :: cs) F := own_un [c0, c1, c2, c3, c4, c5, c6, c7, c8, c9, c10, c11, c12, c13, c14, c15] h
theorem os17 {c0 c1 c2 c3 c4 c5 c6 c7 c8 c9 c10 c11 c12 c13 c14 c15 c16 : List Ent} (h : Own H (c0 :: c1 :: c2 :: c3 :: c4 :: c5 :: c6 :: c7 :: c8 :: c9 :: c10 :: c11 :: c12 :: c13 :: c14 :: c15 :: c16 :: cellE T b l :: cs) F) (e : H' = hset H b o v) (el : l.set o v = l') : Own H' (c0 :: c1 :: c2 :: c3 :: c4 :: c5 :: c6 :: c7 :: c8 :: c9 :: c10 :: c11 :: c12 :: c13 :: c14 :: c15 :: c16 :: cellE T b l' :: cs) F := own_set [c0, c1, c2, c3, c4, c5, c6, c7, c8, c9, c10, c11, c12, c13, c14, c15, c16] h e el
theorem oz17 {c0 c1 c2 c3 c4 c5 c6 c7 c8 c9 c10 c11 c12 c13 c14 c15 c16 : List Ent} (h : Own H (c0 :: c1 :: c2 :: c3 :: c4 :: c5 :: c6 :: c7 :: c8 :: c9 :: c10 :: c11 :: c12 :: c13 :: c14 :: c15 :: c16 :: cellE T b l :: cs) F) (e : H' = hsets H b o vs) (el : putRow l o vs = l') : Own H' (c0 :: c1 :: c2 :: c3 :: c4 :: c5 :: c6 :: c7 :: c8 :: c9 :: c10 :: c11 :: c12 :: c13 :: c14 :: c15 :: c16 :: cellE T b l' :: cs) F := own_sets [c0, c1, c2, c3, c4, c5, c6, c7, c8, c9, c10, c11, c12, c13, c14, c15, c16] h e el
theorem pu17 {c0 c1 c2 c3 c4 c5 c6 c7 c8 c9 c10 c11 c12 c13 c14 c15 c16 c : List Ent} (h : Own H (c0 :: c1 :: c2 :: c3 :: c4 :: c5 :: c6 :: c7 :: c8 :: c9 :: c10 :: c11 :: c12 :: c13 :: c14 :: c15 :: c16 :: c :: cs) F) : Own H (c :: c0 :: c1 :: c2 :: c3 :: c4 :: c5 :: c6 :: c7 :: c8 :: c9 :: c10 :: c11 :: c12 :: c13 :: c14 :: c15 :: c16 :: cs) F := own_pull [c0, c1, c2, c3, c4, c5, c6, c7, c8, c9, c10, c11, c12, c13, c14, c15, c16] h
theorem pb17 {c0 c1 c2 c3 c4 c5 c6 c7 c8 c9 c10 c11 c12 c13 c14 c15 c16 c : List Ent} (h : Own H (c :: c0 :: c1 :: c2 :: c3 :: c4 :: c5 :: c6 :: c7 :: c8 :: c9 :: c10 :: c11 :: c12 :: c13 :: c14 :: c15 :: c16 :: cs) F) : Own H (c0 :: c1 :: c2 :: c3 :: c4 :: c5 :: c6 :: c7 :: c8 :: c9 :: c10 :: c11 :: c12 :: c13 :: c14 :: c15 :: c16 :: c :: cs) F := own_push [c0, c1, c2, c3, c4, c5, c6, c7, c8, c9, c10, c11, c12, c13, c14, c15, c16] h
theorem dr17 {c0 c1 c2 c3 c4 c5 c6 c7 c8 c9 c10 c11 c12 c13 c14 c15 c16 c : List Ent} (h : Own H (c0 :: c1 :: c2 :: c3 :: c4 :: c5 :: c6 :: c7 :: c8 :: c9 :: c10 :: c11 :: c12 :: c13 :: c14 :: c15 :: c16 :: c :: cs) F) : Own H (c0 :: c1 :: c2 :: c3 :: c4 :: c5 :: c6 :: c7 :: c8 :: c9 :: c10 :: c11 :: c12 :: c13 :: c14 :: c15 :: c16 :: cs) F := own_drop [c0, c1, c2, c3, c4, c5, c6, c7, c8, c9, c10, c11, c12, c13, c14, c15, c16] h
theorem fr17 {c0 c1 c2 c3 c4 c5 c6 c7 c8 c9 c10 c11 c12 c13 c14 c15 c16 : List Ent} (h : Own H (c0 :: c1 :: c2 :: c3 :: c4 :: c5 :: c6 :: c7 :: c8 :: c9 :: c10 :: c11 :: c12 :: c13 :: c14 :: c15 :: c16 :: cs) F) : Own H [c0, c1, c2, c3, c4, c5, c6, c7, c8, c9, c10, c11, c12, c13, c14, c15, c16] (cs.flatten ++ F) := own_fr [c0, c1, c2, c3, c4, c5, c6, c7, c8, c9, c10, c11, c12, c13, c14, c15, c16] h
theorem un17 {c0 c1 c2 c3 c4 c5 c6 c7 c8 c9 c10 c11 c12 c13 c14 c15 c16 : List Ent} (h : Own H [c0, c1, c2, c3, c4, c5, c6, c7, c8, c9, c10, c11, c12, c13, c14, c15, c16] (cs.flatten ++ F)) : Own H (c0 :: c1 :: c2 :: c3 :: c4 :: c5 :: c6 :: c7 :: c8 :: c9 :: c10 :: c11 :: c12 :: c13 :: c14 :: c15 :: c16 :: cs) F := own_un [c0, c1, c2, c3, c4, c5, c6, c7, c8, c9, c10, c11, c12, c13, c14, c15, c16] h
theorem os18 {c0 c1 c2 c3 c4 c5 c6 c7 c8 c9 c10 c11 c12 c13 c14 c15 c16 c17 : List Ent} (h : Own H (c0 :: c1 :: c2 :: c3 :: c4 :: c5 :: c6 :: c7 :: c8 :: c9 :: c10 :: c11 :: c12 :: c13 :: c14 :: c15 :: c16 :: c17 :: cellE T b l :: cs) F) (e : H' = hset H b o v) (el : l.set o v = l') : Own H' (c0 :: c1 :: c2 :: c3 :: c4 :: c5 :: c6 :: c7 :: c8 :: c9 :: c10 :: c11 :: c12 :: c13 :: c14 :: c15 :: c16 :: c17 :: cellE T b l' :: cs) F := own_set [c0, c1, c2, c3, c4, c5, c6, c7, c8, c9, c10, c11, c12, c13, c14, c15, c16, c17] h e el
theorem oz18 {c0 c1 c2 c3 c4 c5 c6 c7 c8 c9 c10 c11 c12 c13 c14 c15 c16 c17 : List Ent} (h : Own H (c0 :: c1 :: c2 :: c3 :: c4 :: c5 :: c6 :: c7 :: c8 :: c9 :: c10 :: c11 :: c12 :: c13 :: c14 :: c15 :: c16 :: c17 :: cellE T b l :: cs) F) (e : H' = hsets H b o vs) (el : putRow l o vs = l') : Own H' (c0 :: c1 :: c2 :: c3 :: c4 :: c5 :: c6 :: c7 :: c8 :: c9 :: c10 :: c11 :: c12 :: c13 :: c14 :: c15 :: c16 :: c17 :: cellE T b l' :: cs) F := own_sets [c0, c1, c2, c3, c4, c5, c6, c7, c8, c9, c10, c11, c12, c13, c14, c15, c16, c17] h e el
theorem pu18 {c0 c1 c2 c3 c4 c5 c6 c7 c8 c9 c10 c11 c12 c13 c14 c15 c16 c17 c : List Ent} (h : Own H (c0 :: c1 :: c2 :: c3 :: c4 :: c5 :: c6 :: c7 :: c8 :: c9 :: c10 :: c11 :: c12 :: c13 :: c14 :: c15 :: c16 :: c17 :: c :: cs) F) : Own H (c :: c0 :: c1 :: c2 :: c3 :: c4 :: c5 :: c6 :: c7 :: c8 :: c9 :: c10 :: c11 :: c12 :: c13 :: c14 :: c15 :: c16 :: c17 :: cs) F := own_pull [c0, c1, c2, c3, c4, c5, c6, c7, c8, c9, c10, c11, c12, c13, c14, c15, c16, c17] h
theorem pb18 {c0 c1 c2 c3 c4 c5 c6 c7 c8 c9 c10 c11 c12 c13 c14 c15 c16 c17 c : List Ent} (h : Own H (c :: c0 :: c1 :: c2 :: c3 :: c4 :: c5 :: c6 :: c7 :: c8 :: c9 :: c10 :: c11 :: c12 :: c13 :: c14 :: c15 :: c16 :: c17 :: cs) F) : Own H (c0 :: c1 :: c2 :: c3 :: c4 :: c5 :: c6 :: c7 :: c8 :: c9 :: c10 :: c11 :: c12 :: c13 :: c14 :: c15 :: c16 :: c17 :: c :: cs) F := own_push [c0, c1, c2, c3, c4, c5, c6, c7, c8, c9, c10, c11, c12, c13, c14, c15, c16, c17] h
theorem dr18 {c0 c1 c2 c3 c4 c5 c6 c7 c8 c9 c10 c11 c12 c13 c14 c15 c16 c17 c : List Ent} (h : Own H (c0 :: c1 :: c2 :: c3 :: c4 :: c5 :: c6 :: c7 :: c8 :: c9 :: c10 :: c11 :: c12 :: c13 :: c14 :: c15 :: c16 :: c17 :: c :: cs) F) : Own H (c0 :: c1 :: c2 :: c3 :: c4 :: c5 :: c6 :: c7 :: c8 :: c9 :: c10 :: c11 :: c12 :: c13 :: c14 :: c15 :: c16 :: c17 :: cs) F := own_drop [c0, c1, c2, c3, c4, c5, c6, c7, c8, c9, c10, c11, c12, c13, c14, c15, c16, c17] h
theorem fr18 {c0 c1 c2 c3 c4 c5 c6 c7 c8 c9 c10 c11 c12 c13 c14 c15 c16 c17 : List Ent} (h : Own H (c0 :: c1 :: c2 :: c3 :: c4 :: c5 :: c6 :: c7 :: c8 :: c9 :: c10 :: c11 :: c12 :: c13 :: c14 :: c15 :: c16 :: c17 :: cs) F) : Own H [c0, c1, c2, c3, c4, c5, c6, c7, c8, c9, c10, c11, c12, c13, c14, c15, c16, c17] (cs.flatten ++ F) := own_fr [c0, c1, c2, c3, c4, c5, c6, c7, c8, c9, c10, c11, c12, c13, c14, c15, c16, c17] h
theorem un18 {c0 c1 c2 c3 c4 c5 c6 c7 c8 c9 c10 c11 c12 c13 c14 c15 c16 c17 : List Ent} (h : Own H [c0, c1, c2, c3, c4, c5, c6, c7, c8, c9, c10, c11, c12, c13, c14, c15, c16, c17] (cs.flatten ++ F)) : Own H (c0 :: c1 :: c2 :: c3 :: c4 :: c5 :: c6 :: c7 :: c8 :: c9 :: c10 :: c11 :: c12 :: c13 :: c14 :: c15 :: c16 :: c17 :: cs) F := own_un [c0, c1, c2, c3, c4, c5, c6, c7, c8, c9, c10, c11, c12, c13, c14, c15, c16, c17] h
theorem os19 {c0 c1 c2 c3 c4 c5 c6 c7 c8 c9 c10 c11 c12 c13 c14 c15 c16 c17 c18 : List Ent} (h : Own H (c0 :: c1 :: c2 :: c3 :: c4 :: c5 :: c6 :: c7 :: c8 :: c9 :: c10 :: c11 :: c12 :: c13 :: c14 :: c15 :: c16 :: c17 :: c18 :: cellE T b l :: cs) F) (e : H' = hset H b o v) (el : l.set o v = l') : Own H' (c0 :: c1 :: c2 :: c3 :: c4 :: c5 :: c6 :: c7 :: c8 :: c9 :: c10 :: c11 :: c12 :: c13 :: c14 :: c15 :: c16 :: c17 :: c18 :: cellE T b l' :: cs) F := own_set [c0, c1, c2, c3, c4, c5, c6, c7, c8, c9, c10, c11, c12, c13, c14, c15, c16, c17, c18] h e el
theorem oz19 {c0 c1 c2 c3 c4 c5 c6 c7 c8 c9 c10 c11 c12 c13 c14 c15 c16 c17 c18 : List Ent} (h : Own H (c0 :: c1 :: c2 :: c3 :: c4 :: c5 :: c6 :: c7 :: c8 :: c9 :: c10 :: c11 :: c12 :: c13 :: c14 :: c15 :: c16 :: c17 :: c18 :: cellE T b l :: cs) F) (e : H' = hsets H b o vs) (el : putRow l o vs = l') : Own H' (c0 :: c1 :: c2 :: c3 :: c4 :: c5 :: c6 :: c7 :: c8 :: c9 :: c10 :: c11 :: c12 :: c13 :: c14 :: c15 :: c16 :: c17 :: c18 :: cellE T b l' :: cs) F := own_sets [c0, c1, c2, c3, c4, c5, c6, c7, c8, c9, c10, c11, c12, c13, c14, c15, c16, c17, c18] h e el
theorem pu19 {c0 c1 c2 c3 c4 c5 c6 c7 c8 c9 c10 c11 c12 c13 c14 c15 c16 c17 c18 c : List Ent} (h : Own H (c0 :: c1 :: c2 :: c3 :: c4 :: c5 :: c6 :: c7 :: c8 :: c9 :: c10 :: c11 :: c12 :: c13 :: c14 :: c15 :: c16 :: c17 :: c18 :: c :: cs) F) : Own H (c :: c0 :: c1 :: c2 :: c3 :: c4 :: c5 :: c6 :: c7 :: c8 :: c9 :: c10 :: c11 :: c12 :: c13 :: c14 :: c15 :: c16 :: c17 :: c18 :: cs) F := own_pull [c0, c1, c2, c3, c4, c5, c6, c7, c8, c9, c10, c11, c12, c13, c14, c15, c16, c17, c18] h
theorem pb19 {c0 c1 c2 c3 c4 c5 c6 c7 c8 c9 c10 c11 c12 c13 c14 c15 c16 c17 c18 c : List Ent} (h : Own H (c :: c0 :: c1 :: c2 :: c3 :: c4 :: c5 :: c6 :: c7 :: c8 :: c9 :: c10 :: c11 :: c12 :: c13 :: c14 :: c15 :: c16 :: c17 :: c18 :: cs) F) : Own H (c0 :: c1 :: c2 :: c3 :: c4 :: c5 :: c6 :: c7 :: c8 :: c9 :: c10 :: c11 :: c12 :: c13 :: c14 :: c15 :: c16 :: c17 :: c18 :: c :: cs) F := own_push [c0, c1, c2, c3, c4, c5, c6, c7, c8, c9, c10, c11, c12, c13, c14, c15, c16, c17, c18] h
theorem dr19 {c0 c1 c2 c3 c4 c5 c6 c7 c8 c9 c10 c11 c12 c13 c14 c15 c16 c17 c18 c : List Ent} (h : Own H (c0 :: c1 :: c2 :: c3 :: c4 :: c5 :: c6 :: c7 :: c8 :: c9 :: c10 :: c11 :: c12 :: c13 :: c14 :: c15 :: c16 :: c17 :: c18 :: c :: cs) F) : Own H (c0 :: c1 :: c2 :: c3 :: c4 :: c5 :: c6 :: c7 :: c8 :: c9 :: c10 :: c11 :: c12 :: c13 :: c14 :: c15 :: c16 :: c17 :: c18 :: cs) F := own_drop [c0, c1, c2, c3, c4, c5, c6, c7, c8, c9, c10, c11, c12, c13, c14, c15, c16, c17, c18] h
theorem fr19 {c0 c1 c2 c3 c4 c5 c6 c7 c8 c9 c10 c11 c12 c13 c14 c15 c16 c17 c18 : List Ent} (h : Own H (c0 :: c1 :: c2 :: c3 :: c4 :: c5 :: c6 :: c7 :: c8 :: c9 :: c10 :: c11 :: c12 :: c13 :: c14 :: c15 :: c16 :: c17 :: c18 :: cs) F) : Own H [c0, c1, c2, c3, c4, c5, c6, c7, c8, c9, c10, c11, c12, c13, c14, c15, c16, c17, c18] (cs.flatten ++ F) := own_fr [c0, c1, c2, c3, c4, c5, c6, c7, c8, c9, c10, c11, c12, c13, c14, c15, c16, c17, c18] h
theorem un19 {c0 c1 c2 c3 c4 c5 c6 c7 c8 c9 c10 c11 c12 c13 c14 c15 c16 c17 c18 : List Ent} (h : Own H [c0, c1, c2, c3, c4, c5, c6, c7, c8, c9, c10, c11, c12, c13, c14, c15, c16, c17, c18] (cs.flatten ++ F)) : Own H (c0 :: c1 :: c2 :: c3 :: c4 :: c5 :: c6 :: c7 :: c8 :: c9 :: c10 :: c11 :: c12 :: c13 :: c14 :: c15 :: c16 :: c17 :: c18 :: cs) F := own_un [c0, c1, c2, c3, c4, c5, c6, c7, c8, c9, c10, c11, c12, c13, c14, c15, c16, c17, c18] h
end

/-! ### The functions that the walks compute -/
section
variable {α β : Type}
/-- k, if p. -/
def ck (p : Prop) [Decidable p] (k : Option α) : Option α := if p then k else none
theorem ckS {p : Prop} [Decidable p] {k : Option α} {y : α} (h : ck p k = some y) : p ∧ k = some y := by
  unfold ck at h
  by_cases hp : p
  · rw [if_pos hp] at h; exact ⟨hp, h⟩
  · rw [if_neg hp] at h; cases h
theorem ckT {p : Prop} [Decidable p] {k : Option α} (h : p) : ck p k = k := if_pos h
/-- Element i of a row of which n places count. -/
def getN (l : List α) (n : Nat) (i : Int) : Option α := if 0 ≤ i ∧ i < n then l[i.toNat]? else none
theorem getS {l : List α} {n : Nat} {i : Int} {f : α → Option β} {y : β} (h : (getN l n i).bind f = some y) : ∃ x, (0 ≤ i ∧ i < n ∧ l[i.toNat]? = some x) ∧ f x = some y := by
  unfold getN at h
  by_cases hp : 0 ≤ i ∧ i < n
  · rw [if_pos hp] at h
    cases hx : l[i.toNat]? with
    | none => rw [hx] at h; cases h
    | some x => rw [hx] at h; exact ⟨x, ⟨hp.1, hp.2, rfl⟩, h⟩
  · rw [if_neg hp] at h; cases h
theorem getT {l : List α} {n : Nat} {i : Int} {x : α} (h : 0 ≤ i) (hn : i < n) (hx : l[i.toNat]? = some x) : getN l n i = some x := by
  unfold getN; rw [if_pos ⟨h, hn⟩, hx]
theorem bindS {o : Option α} {f : α → Option β} {y : β} (h : o.bind f = some y) : ∃ x, o = some x ∧ f x = some y := Option.bind_eq_some_iff.1 h
theorem ifTd {p : Prop} [Decidable p] {a b y : α} (c : decide p = true) (h : (if p then a else b) = y) : a = y := by rwa [if_pos (of_decide_eq_true c)] at h
theorem ifFd {p : Prop} [Decidable p] {a b y : α} (c : decide p = false) (h : (if p then a else b) = y) : b = y := by rwa [if_neg (of_decide_eq_false c)] at h
theorem ifTb {q : Bool} {a b y : α} (c : q = true) (h : (if q = true then a else b) = y) : a = y := by rwa [if_pos c] at h
theorem ifFb {q : Bool} {a b y : α} (c : q = false) (h : (if q = true then a else b) = y) : b = y := by rwa [if_neg (by simp [c])] at h
end

/-- The least number of a kind. -/
theorem ex_min {P : Nat → Prop} (h : ∃ n, P n) : ∃ n, P n ∧ ∀ m, P m → n ≤ m := by
  obtain ⟨n, h⟩ := h
  induction n using Nat.strongRecOn with
  | ind n ih =>
    by_cases hm : ∃ m, m < n ∧ P m
    · obtain ⟨m, h1, h2⟩ := hm
      exact ih m h1 h2
    · refine ⟨n, h, fun m hp => ?_⟩
      rcases Nat.lt_or_ge m n with h1 | h1
      · exact absurd ⟨m, h1, hp⟩ hm
      · exact h1
/-- A number at which P holds, the least; where there is one. -/
def lsp (P : Nat → Prop) (k : Nat) : Prop := (∃ n, P n) → P k ∧ ∀ m, P m → k ≤ m
theorem lsp_get (P : Nat → Prop) : lsp P (Classical.epsilon (lsp P)) := by
  refine Classical.epsilon_spec (p := lsp P) ?_
  by_cases h : ∃ n, P n
  · obtain ⟨n, h1, h2⟩ := ex_min h
    exact ⟨n, fun _ => ⟨h1, h2⟩⟩
  · exact ⟨0, fun h' => absurd h' h⟩
theorem lst_get {P : Nat → Prop} (h : ∃ n, P n) : ∃ m, m = Classical.epsilon (lsp P) ∧ P m :=
  ⟨Classical.epsilon (lsp P), rfl, (lsp_get P h).1⟩
theorem lst_le {P : Nat → Prop} {m : Nat} (h : P m) : Classical.epsilon (lsp P) ≤ m := (lsp_get P ⟨m, h⟩).2 m h
theorem lst_step {P Q : Nat → Prop} {k : Nat} (e : k + 1 = Classical.epsilon (lsp P)) (h : Q k) : (∃ m, Q m) ∧ Classical.epsilon (lsp Q) < Classical.epsilon (lsp P) :=
  ⟨⟨k, h⟩, by have := lst_le h; omega⟩

theorem Own.arr {α : Type} {enc : α → List Value} {H : Heap} {cs : List (List Ent)} {F : List Ent} {T b : Nat} {l : List α} (h : Own H cs F) (hm : cellE T b (l.flatMap enc) ∈ cs) : Arr enc H b l := h.blk hm
theorem own_nil {H : Heap} {cs : List (List Ent)} {F : List Ent} (h : Own H cs F) : Own H ([] :: cs) F := h.cast (by simp)
section
variable {α : Type} {enc : α → List Value} {sz : Nat} {l : List α}
theorem getLt {i : Nat} {x : α} (h : l[i]? = some x) : i < l.length := (List.getElem?_eq_some_iff.1 h).1
theorem setGet {i : Nat} {x : α} (h : i < l.length) : (l.set i x)[i]? = some x := by simp [h]
theorem flat_set1 (hs : ∀ x, (enc x).length = sz) {i j o : Nat} {x x' : α} {v : Value} (hi : l[i]? = some x) (hj : j < sz) (ho : o = i * sz + j) (he : (enc x).set j v = enc x') : (l.flatMap enc).set o v = (l.set i x').flatMap enc := by
  subst ho; exact flat_set hs l i j x x' v hi hj he
theorem flat_put1 (hs : ∀ x, (enc x).length = sz) {i o : Nat} {x : α} (hi : i < l.length) (ho : o = i * sz) : putRow (l.flatMap enc) o (enc x) = (l.set i x).flatMap enc := by
  subst ho; exact flat_put hs l i x hi
theorem flat_sub (hs : ∀ x, (enc x).length = sz) {i j : Nat} {x x' : α} {vs : List Value} (hi : l[i]? = some x) (hj : j + vs.length ≤ sz) (hv : vs ≠ []) (he : putRow (enc x) j vs = enc x') :
    putRow (l.flatMap enc) (i * sz + j) vs = (l.set i x').flatMap enc := by
  have hl := flat_length hs l
  have hil : i < l.length := getLt hi
  have hb : i * sz + sz ≤ l.length * sz := by rw [← Nat.succ_mul]; exact Nat.mul_le_mul_right _ hil
  have hvl : 0 < vs.length := List.length_pos_iff.2 hv
  apply List.ext_getElem?
  intro k
  rw [putRow_get _ _ _ (by rw [hl]; omega)]
  by_cases hk : k < l.length * sz
  · have hq : k = (k / sz) * sz + k % sz := by rw [Nat.mul_comm]; exact (Nat.div_add_mod k sz).symm
    have hm : k % sz < sz := Nat.mod_lt _ (by omega)
    have hd : k / sz < l.length := by rw [Nat.div_lt_iff_lt_mul (by omega)]; exact hk
    generalize k / sz = q at hq hd
    generalize k % sz = r at hq hm
    subst hq
    by_cases hqi : q = i
    · subst hqi
      rw [flat_get hs (l.set q x') q r x' (by simp [hd]) hm, ← he, putRow_get _ _ _ (by rw [hs]; exact hj)]
      by_cases hr : j ≤ r ∧ r < j + vs.length
      · rw [if_pos (by omega), if_pos hr]
        congr 1; omega
      · rw [if_neg (by omega), if_neg hr, flat_get hs l q r x hi hm]
    · rw [if_neg (by
        intro hh
        rcases Nat.lt_or_gt_of_ne hqi with h | h
        · have := Nat.mul_le_mul_right sz h
          rw [Nat.succ_mul] at this; omega
        · have := Nat.mul_le_mul_right sz h
          rw [Nat.succ_mul] at this; omega)]
      rw [flat_get hs l q r l[q] (by simp [hd]) hm, flat_get hs (l.set i x') q r l[q] (by rw [List.getElem?_set]; simp [Ne.symm hqi, hd]) hm]
  · rw [if_neg (by omega), List.getElem?_eq_none (by rw [hl]; omega), List.getElem?_eq_none (by rw [flat_length hs, List.length_set]; omega)]
theorem flat_sub1 (hs : ∀ x, (enc x).length = sz) {i j o : Nat} {x x' : α} {vs : List Value} (hi : l[i]? = some x) (hj : j + vs.length ≤ sz) (hv : vs ≠ []) (ho : o = i * sz + j) (he : putRow (enc x) j vs = enc x') :
    putRow (l.flatMap enc) o vs = (l.set i x').flatMap enc := by subst ho; exact flat_sub hs hi hj hv he
theorem Arr.wr1 {H : Heap} {b : Nat} (h : Arr enc H b l) (hs : ∀ x, (enc x).length = sz) {i j o n : Nat} (hi : i < l.length) (hj : j + n ≤ sz) (ho : o = i * sz + j) : Wr H b o n :=
  h.wr hs hi (by omega)
theorem zrow_flat {P : Program} {e : Nat} {d : α} {z : Value} (hs : ∀ x, (enc x).length = sz) (hsz : szOf P e = sz) (hp : 0 < sz)
    (hz : (P.info? e).bind (·.zero) = some z) (he : z.cells = ⟨enc d⟩) (n : Nat) : zrow P e n = ⟨(List.replicate n d).flatMap enc⟩ := by
  unfold zrow
  rw [hz]
  simp only [hsz, he]
  apply Array.ext'
  simp only [Array.toList_map, Array.toList_range]
  apply List.ext_getElem?
  intro i
  by_cases hi : i < n * sz
  · have hq : i = (i / sz) * sz + i % sz := by rw [Nat.mul_comm]; exact (Nat.div_add_mod i sz).symm
    have hm : i % sz < sz := Nat.mod_lt _ hp
    have hd : i / sz < n := by rw [Nat.div_lt_iff_lt_mul hp]; exact hi
    rw [List.getElem?_map, List.getElem?_range hi]
    conv => rhs; rw [hq]
    rw [flat_get hs _ (i / sz) (i % sz) d (by simp [hd]) hm]
    have hl : (⟨enc d⟩ : Array Value).size = sz := by simp [hs]
    simp only [Option.map_some, hl]
    rw [getElem!_pos _ _ (by simp [hs]; exact hm)]
    simp [List.getElem?_eq_getElem, hs, hm]
  · rw [List.getElem?_eq_none (by simp; omega), List.getElem?_eq_none (by rw [flat_length hs]; simp; omega)]
end
def encC (n : Int) : List Value := [.int .u8 n]
theorem lenC (x : Int) : (encC x).length = 1 := rfl
theorem z3 (n : Nat) : zrow Tryz.prog 3 n = ⟨(List.replicate n (0 : Int)).flatMap encI⟩ := zrow_flat (z := I 0) lenI (by kernel_rfl) (by decide) (by kernel_rfl) rfl n
theorem z71 (n : Nat) : zrow Tryz.prog 71 n = ⟨(List.replicate n (0 : BitVec 32)).flatMap encU⟩ := zrow_flat (z := .int .u32 0) lenU (by kernel_rfl) (by decide) (by kernel_rfl) rfl n
theorem z9 (n : Nat) : zrow Tryz.prog 9 n = ⟨(List.replicate n ([] : List UInt8)).flatMap encS⟩ := zrow_flat (z := str []) lenStr (by kernel_rfl) (by decide) (by kernel_rfl) rfl n
theorem z5 (n : Nat) : zrow Tryz.prog 5 n = ⟨(List.replicate n (0 : Int)).flatMap encC⟩ := zrow_flat (z := .int .u8 0) lenC (by kernel_rfl) (by decide) (by kernel_rfl) rfl n
theorem z94 (n : Nat) : zrow Tryz.prog 94 n = ⟨(List.replicate n dVal).flatMap encVal⟩ := zrow_flat (z := .agg ⟨encVal dVal⟩) lenVal (by kernel_rfl) (by decide) (by kernel_rfl) rfl n
theorem z153 (n : Nat) : zrow Tryz.prog 153 n = ⟨(List.replicate n dNode).flatMap encNode⟩ := zrow_flat (z := .agg ⟨encNode dNode⟩) lenNode (by kernel_rfl) (by decide) (by kernel_rfl) rfl n
theorem z194 (n : Nat) : zrow Tryz.prog 194 n = ⟨(List.replicate n dTok).flatMap encTok⟩ := zrow_flat (z := .agg ⟨encTok dTok⟩) lenTok (by kernel_rfl) (by decide) (by kernel_rfl) rfl n
theorem z202 (n : Nat) : zrow Tryz.prog 202 n = ⟨(List.replicate n dMark).flatMap encMark⟩ := zrow_flat (z := .agg ⟨encMark dMark⟩) lenMark (by kernel_rfl) (by decide) (by kernel_rfl) rfl n
theorem z206 (n : Nat) : zrow Tryz.prog 206 n = ⟨(List.replicate n dNote).flatMap encNote⟩ := zrow_flat (z := .agg ⟨encNote dNote⟩) lenNote (by kernel_rfl) (by decide) (by kernel_rfl) rfl n
theorem z218 (n : Nat) : zrow Tryz.prog 218 n = ⟨(List.replicate n dInstr).flatMap encInstr⟩ := zrow_flat (z := .agg ⟨encInstr dInstr⟩) lenInstr (by kernel_rfl) (by decide) (by kernel_rfl) rfl n
theorem z233 (n : Nat) : zrow Tryz.prog 233 n = ⟨(List.replicate n dTally).flatMap encTally⟩ := zrow_flat (z := .agg ⟨encTally dTally⟩) lenTally (by kernel_rfl) (by decide) (by kernel_rfl) rfl n
theorem injV {s t : BitVec 32} (h : Value.int .u32 (s.toNat : Int) = Value.int .u32 (t.toNat : Int)) : s = t := (injU h).symm

/-! ### Bytes, strings -/
def bytesAt (l : List Int) (o n : Nat) : List UInt8 := ((l.drop o).take n).map fun x => UInt8.ofNat x.toNat
abbrev byteOK (x : Int) : Prop := 0 ≤ x ∧ x ≤ 255
/-- The string in n places of a row of bytes from o on. -/
def toS (l : List Int) (o n : Nat) : Option (List UInt8) := if o + n ≤ l.length ∧ ∀ x ∈ (l.drop o).take n, byteOK x then some (bytesAt l o n) else none
theorem u8_back {x : Int} (h : 0 ≤ x ∧ x ≤ 255) : ((UInt8.ofNat x.toNat).toNat : Int) = x := by
  rw [UInt8.toNat_ofNat']
  omega
theorem u8v {x : Int} (h : 0 ≤ x ∧ x ≤ 255) : Value.int .u8 ((UInt8.ofNat x.toNat).toNat : Int) = Value.int .u8 x := by rw [u8_back h]
theorem u8ok (x : UInt8) : i64ok (x.toNat : Int) := by have := x.toNat_lt; constructor <;> omega
theorem toS_get {l : List Int} {o n : Nat} {s : List UInt8} (h : toS l o n = some s) : s = bytesAt l o n ∧ o + n ≤ l.length ∧ ∀ x ∈ (l.drop o).take n, byteOK x := by
  unfold toS at h
  split at h
  · rename_i hc; exact ⟨(Option.some.inj h).symm, hc.1, hc.2⟩
  · cases h
theorem toS_len {l : List Int} {o n : Nat} {s : List UInt8} (h : toS l o n = some s) : s.length = n := by
  obtain ⟨rfl, h1, _⟩ := toS_get h
  simp [bytesAt]; omega
theorem toS_row {H : Heap} {b : Nat} {l : List Int} {o o' n : Nat} {s : List UInt8} (h : toS l o n = some s) (ha : Arr encC H b l) (ho : o' = o) : RowAt H b o' (s.map fun c => Value.int .u8 c.toNat) := by
  have hlen := toS_len h
  obtain ⟨rfl, hn, hr⟩ := toS_get h
  subst ho
  intro j hj
  simp only [List.length_map, hlen] at hj
  have hl : o' + j < l.length := by omega
  have h1 := Arr.rd lenC ha (i := o' + j) (j := 0) (o := o' + j) (x := l[o' + j]) (by simp [hl]) (by decide) (by omega) rfl
  rw [h1]
  have hx : byteOK l[o' + j] := hr _ (by
    apply List.mem_iff_getElem?.2
    exact ⟨j, by rw [List.getElem?_take, if_pos hj, List.getElem?_drop, List.getElem?_eq_getElem hl]⟩)
  simp only [bytesAt, List.getElem?_map, List.getElem?_take, if_pos hj, List.getElem?_drop, List.getElem?_eq_getElem hl, Option.map_some]
  rw [u8_back hx]
/-- The bytes of s laid into a row of bytes from o on. -/
def putL (l : List Int) (o : Nat) : List UInt8 → List Int
  | [] => l
  | c :: s => putL (l.set o (c.toNat : Int)) (o + 1) s
theorem flatC (l : List Int) : l.flatMap encC = l.map fun n => Value.int .u8 n := by
  induction l with
  | nil => rfl
  | cons x l ih => rw [List.flatMap_cons, ih]; rfl
theorem putL_row0 (s : List UInt8) : ∀ (l : List Int) (o : Nat), putRow (l.flatMap encC) o (s.map fun c => Value.int .u8 c.toNat) = (putL l o s).flatMap encC := by
  induction s with
  | nil => intro l o; rfl
  | cons c s ih =>
    intro l o
    simp only [List.map_cons, putRow, putL]
    rw [← ih]
    congr 1
    rw [flatC, flatC, List.map_set]
theorem putL_row {l : List Int} {o o' n : Nat} {s : List UInt8} (ho : o' = o) (h : o + n ≤ l.length) : putRow (l.flatMap encC) o' (s.map fun c => Value.int .u8 c.toNat) = (putL l o s).flatMap encC := by
  subst ho; exact putL_row0 s l o'
theorem putL_wr {H : Heap} {b : Nat} {l : List Int} {o o' n : Nat} (ha : Arr encC H b l) (ho : o' = o) (h : o + n ≤ l.length) : Wr H b o' n := by
  subst ho
  exact Blk.wr ha (by rw [flat_length lenC]; omega)

/-! ### Slices that may be nil; trees -/
def SH {α : Type} (T : Nat) (enc : α → List Value) (l : List α) (a : Option Addr) (m : Nat) (C : List Ent) : Prop :=
  m = l.length ∧ (0 < l.length → ∃ b, a = some ⟨b, 0, none⟩ ∧ C = cellE T b (l.flatMap enc))
theorem shNil {α : Type} {T : Nat} {enc : α → List Value} : SH T enc [] none 0 [] := ⟨rfl, fun h => absurd h (by simp)⟩
theorem shBlk {α : Type} {T b m : Nat} {enc : α → List Value} {l : List α} (h : m = l.length) : SH T enc l (some ⟨b, 0, none⟩) m (cellE T b (l.flatMap enc)) := ⟨h, fun _ => ⟨b, rfl, rfl⟩⟩
structure TreeV where
  nodes : List NodeT
  root : Int
  err : Int
  pos : Int
/-- A slice that grows: its value, its block (l counts, x lies behind). -/
def gsl {α : Type} (b : Nat) (x l : List α) : Value := if l.length + x.length = 0 then .slice none 0 0 else .slice (some ⟨b, 0, none⟩) l.length (l.length + x.length)
def gch {α : Type} (T : Nat) (enc : α → List Value) (b : Nat) (x l : List α) : List Ent := if l.length + x.length = 0 then [] else cellE T b ((l ++ x).flatMap enc)
theorem zo0 (x : Nat) : 0 + x = x + 0 := Nat.zero_add x
theorem zo (x k : Nat) : 0 + x + k = x + k := by rw [Nat.zero_add]
/-! ### Slices of slices: lists of snapshots -/
/-- The layout of a list of snapshots: its block, what lies ahead and behind; each snapshot's block. -/
structure SnL where
  isnil : Bool
  b : Nat
  pre : List Value
  ext : List Value
  bs : List Nat
def SnL.nil : SnL := ⟨true, 0, [], [], []⟩
def snapV (b : Nat) : Value := .slice (some ⟨b, 0, none⟩) 24 24
def snaps (bs : List Nat) (S : List (List (List UInt8))) : List Ent := (List.zipWith (fun b s => cellE 9 b (s.flatMap encS)) bs S).flatten
def Gsl (L : SnL) (S : List (List (List UInt8))) : Value := if L.isnil then .slice none 0 0 else .slice (some ⟨L.b, L.pre.length, none⟩) S.length (S.length + L.ext.length)
def Gch (L : SnL) (S : List (List (List UInt8))) : List Ent :=
  if L.bs.length = S.length ∧ (L.isnil = true → S.length = 0) then
    (if L.isnil then [] else cellE 79 L.b (L.pre ++ L.bs.map snapV ++ L.ext) ++ snaps L.bs S)
  else [(0, .cells ⟨[]⟩ 0 (0, 0)), (0, .cells ⟨[]⟩ 0 (0, 0))]
theorem Arr.row_pre {α : Type} {enc : α → List Value} {H : Heap} {b : Nat} {l x : List α} (h : Arr enc H b (l ++ x)) : RowAt H b 0 (l.flatMap enc) :=
  Blk.row h fun j hj => by rw [Nat.zero_add, List.flatMap_append, List.getElem?_append_left hj]
theorem appGet {α : Type} {l x : List α} {i : Nat} {v : α} (h : l[i]? = some v) : (l ++ x)[i]? = some v := by rw [List.getElem?_append_left (getLt h)]; exact h
/-- As SH; behind what counts there may lie more. -/
def SHX {α : Type} (T : Nat) (enc : α → List Value) (l : List α) (a : Option Addr) (m : Nat) (C : List Ent) : Prop :=
  m = l.length ∧ (0 < l.length → ∃ b x, a = some ⟨b, 0, none⟩ ∧ C = cellE T b ((l ++ x).flatMap enc))
theorem gsl_shx {α : Type} {T : Nat} {enc : α → List Value} (b : Nat) (x l : List α) : ∃ a c, gsl b x l = .slice a l.length c ∧ SHX T enc l a l.length (gch T enc b x l) := by
  by_cases h : l.length + x.length = 0
  · refine ⟨none, 0, by unfold gsl; rw [if_pos h, show l.length = 0 by omega], rfl, fun hp => absurd hp (by omega)⟩
  · refine ⟨some ⟨b, 0, none⟩, l.length + x.length, by unfold gsl; rw [if_neg h], rfl, fun _ => ⟨b, x, rfl, by unfold gch; rw [if_neg h]⟩⟩
theorem putRow_mid {α : Type} {enc : α → List Value} {sz : Nat} (hs : ∀ x, (enc x).length = sz) (l x : List α) (y z : α) {o : Nat} (ho : o = l.length * sz) : putRow ((l ++ y :: x).flatMap enc) o (enc z) = ((l ++ [z]) ++ x).flatMap enc := by
  subst ho
  rw [flat_put hs _ _ _ (by simp)]
  congr 1
  simp
/-! ### Slices that grow -/
/-- A slice of one-cell elements that grows: nil, or a block with what lies ahead and behind. -/
def GV {α : Type} (T : Nat) (enc : α → List Value) (pre l : List α) (a : Option Addr) (m k : Nat) (C : List Ent) : Prop :=
  m = l.length ∧ ((a = none ∧ k = 0 ∧ l = [] ∧ C = []) ∨ ∃ b x, a = some ⟨b, pre.length, none⟩ ∧ k = l.length + x.length ∧ C = cellE T b ((pre ++ l ++ x : List α).flatMap enc))
theorem append_gv {α : Type} {T : Nat} {enc : α → List Value} {d y : α} {pre l : List α} {a : Option Addr} {m k : Nat} {C : List Ent} {H0 H : Heap} {cs : List (List Ent)} {F : List Ent} {Q : Option Addr → Nat → Nat → Heap → Prop} {v : List Value}
    (hs : ∀ x, (enc x).length = 1) (hz : ∀ n, zrow Tryz.prog T n = ⟨(List.replicate n d).flatMap enc⟩) (hok : (enc y).all okCell = true)
    (hg : GV T enc pre l a m k C) (hO : Own H0 (C :: cs) F) (hm : m + 1 ≤ 1000) (e : H = H0.push (.cells ⟨v⟩ T)) (hv : v = enc y)
    (hQ : ∀ pre' a' k' C' H', (pre' = pre ∨ pre' = []) → GV T enc pre' (l ++ [y]) a' (m + 1) k' C' → Own H' (C' :: cs) F → Q a' (m + 1) k' H') :
    ∃ l1 l2 : List Value, l1.length = m * 1 ∧ l2.length = 1 * 1 ∧ RowO H a l1 ∧ RowO H (some ⟨H0.size, 0, none⟩) l2 ∧ m + 1 ≤ 1000 ∧ true = true ∧
      (m + 1 ≤ k → ∃ p o : Nat, a = some ⟨p, o, none⟩ ∧ Wr H p (o + m * 1) (1 * 1) ∧ l2.all okCell = true ∧ ∀ H1 : Heap, H1 = hsets H p (o + m * 1) l2 → Q (some ⟨p, o, none⟩) (m + 1) k H1) ∧
      (k < m + 1 → ∀ (k1 : Nat) (H1 : Heap), m + 1 ≤ k1 → H1 = H.push (.cells (⟨l1 ++ l2⟩ ++ zrow Tryz.prog T (k1 - (m + 1))) T) → Q (some ⟨H.size, 0, none⟩) (m + 1) k1 H1) := by
  subst hv
  have hX := own_new (l := enc y) hO e rfl
  obtain ⟨rfl, hg⟩ := hg
  rcases hg with ⟨rfl, rfl, rfl, rfl⟩ | ⟨b, x, rfl, rfl, rfl⟩
  · refine ⟨[], enc y, rfl, hs y, .inl ⟨rfl, rfl⟩, .inr ⟨_, _, rfl, (hX.blk (.head _)).row0⟩, hm, rfl, fun w => absurd w (by simp), fun _ => ?_⟩
    intro k1 H1 hk e1
    have hY := own_new (l := ([] ++ [y] ++ List.replicate (k1 - 1) d : List α).flatMap enc) hX e1 (by rw [hz]; simp [List.flatMap_append])
    exact hQ [] _ _ _ _ (.inr rfl) ⟨by simp, .inr ⟨H.size, List.replicate (k1 - 1) d, rfl, by simp at hk ⊢; omega, rfl⟩⟩ (dr1 (dr1 hY))
  · have hlen := flat_length hs (pre ++ l ++ x)
    have hl1 := flat_length hs l
    refine ⟨l.flatMap enc, enc y, hl1, hs y, .inr ⟨_, _, rfl, (hX.blk (.tail _ (.head _))).row fun j hj => ?_⟩, .inr ⟨_, _, rfl, (hX.blk (.head _)).row0⟩, hm, rfl, fun w => ?_, fun w => ?_⟩
    · have hp := flat_length hs pre
      simp only [List.flatMap_append]
      rw [List.append_assoc, List.getElem?_append_right (by omega), hp, Nat.mul_one, Nat.add_sub_cancel_left, List.getElem?_append_left hj]
    · obtain ⟨z, x', rfl⟩ : ∃ z x', x = z :: x' := by
        cases x with
        | nil => exfalso; simp only [List.length_nil] at w; omega
        | cons z x' => exact ⟨z, x', rfl⟩
      refine ⟨_, _, rfl, (hX.blk (.tail _ (.head _))).wr (by rw [hlen]; simp only [List.length_append, List.length_cons]; omega), hok, fun H1 e1 => ?_⟩
      have hY := oz1 (l' := ((pre ++ (l ++ [y]) ++ x').flatMap enc)) hX e1 (by
        have := putRow_mid hs (pre ++ l) x' z y (o := pre.length + l.length * 1) (by simp)
        rw [this]
        simp)
      exact hQ pre _ _ _ _ (.inl rfl) ⟨by simp, .inr ⟨b, x', rfl, by simp; omega, rfl⟩⟩ (dr0 hY)
    · obtain rfl : x = [] := by
        cases x with
        | nil => rfl
        | cons z x' => simp only [List.length_cons] at w; omega
      intro k1 H1 hk e1
      have hY := own_new (l := ([] ++ (l ++ [y]) ++ List.replicate (k1 - (l.length + 1)) d : List α).flatMap enc) hX e1 (by rw [hz]; simp [List.flatMap_append])
      exact hQ [] _ _ _ _ (.inr rfl) ⟨by simp, .inr ⟨H.size, List.replicate (k1 - (l.length + 1)) d, rfl, by simp; omega, rfl⟩⟩ (dr1 (dr1 hY))

theorem own_cons_nil {H : Heap} {cs : List (List Ent)} {F : List Ent} (h : Own H ([] :: cs) F) : Own H cs F := h.cast (by simp)
def encV1 (v : Value) : List Value := [v]
theorem lenV1 (v : Value) : (encV1 v).length = 1 := rfl
theorem flatV1 (l : List Value) : l.flatMap encV1 = l := by
  induction l with
  | nil => rfl
  | cons v l ih => rw [List.flatMap_cons, ih]; rfl
theorem z79 (n : Nat) : zrow Tryz.prog 79 n = ⟨(List.replicate n (Value.slice none 0 0)).flatMap encV1⟩ := zrow_flat (z := Value.slice none 0 0) lenV1 (by kernel_rfl) (by decide) (by kernel_rfl) rfl n
section
variable {H H0 : Heap} {cs : List (List Ent)} {F : List Ent} {L : SnL} {S : List (List (List UInt8))} {s : List (List UInt8)} {a : Option Addr} {m k bN : Nat}
theorem Own.ok (h : Own H (Gch L S :: cs) F) : L.bs.length = S.length ∧ (L.isnil = true → S.length = 0) := by
  unfold Gch at h
  split at h
  · assumption
  · have := h.1
    simp at this
theorem G_open (h : Own H (Gch L S :: cs) F) : ∃ a k C, Gsl L S = .slice a S.length k ∧ L.bs.length = S.length ∧ GV 79 encV1 L.pre (L.bs.map snapV) a S.length k C ∧ Own H (C :: snaps L.bs S :: cs) F := by
  obtain ⟨h1, h2⟩ := h.ok
  unfold Gch at h
  rw [if_pos ⟨h1, h2⟩] at h
  unfold Gsl
  cases hn : L.isnil with
  | true =>
    rw [hn] at h
    have h3 := h2 hn
    have hb : L.bs = [] := List.eq_nil_of_length_eq_zero (by omega)
    refine ⟨none, 0, [], by simp [h3], h1, ⟨by simp [h1], .inl ⟨rfl, rfl, by rw [hb]; rfl, rfl⟩⟩, ?_⟩
    have hS : snaps L.bs S = [] := by rw [hb]; rfl
    rw [hS]
    exact own_nil (own_cons_nil h |> own_nil)
  | false =>
    rw [hn] at h
    refine ⟨some ⟨L.b, L.pre.length, none⟩, S.length + L.ext.length, cellE 79 L.b (L.pre ++ L.bs.map snapV ++ L.ext), by simp, h1, ⟨by simp [h1], .inr ⟨L.b, L.ext, rfl, by simp [h1], by rw [flatV1]⟩⟩, ?_⟩
    exact h.cast (by simp)
theorem G_close {pre : List Value} {bs : List Nat} {C : List Ent} (hg : GV 79 encV1 pre (bs.map snapV) a m k C) (hb : bs.length = S.length) (h : Own H (C :: snaps bs S :: cs) F) : ∃ L, Gsl L S = .slice a m k ∧ L.bs = bs ∧ Own H (Gch L S :: cs) F := by
  obtain ⟨rfl, hg⟩ := hg
  rcases hg with ⟨rfl, rfl, h0, rfl⟩ | ⟨b, x, rfl, rfl, rfl⟩
  · have hb0 : bs = [] := by simpa using h0
    subst hb0
    have hS : S = [] := List.eq_nil_of_length_eq_zero (by simpa using hb.symm)
    subst hS
    refine ⟨SnL.nil, by simp [Gsl, SnL.nil], rfl, ?_⟩
    have : Gch SnL.nil [] = [] := by simp [Gch, SnL.nil]
    rw [this]
    exact own_nil (own_cons_nil (own_cons_nil h))
  · refine ⟨⟨false, b, pre, x, bs⟩, by simp [Gsl, hb], rfl, ?_⟩
    have : Gch ⟨false, b, pre, x, bs⟩ S = cellE 79 b (pre ++ bs.map snapV ++ x) ++ snaps bs S := by simp [Gch, hb]
    rw [this]
    rw [flatV1] at h
    exact h.cast (by simp)
theorem Gsl_val (h : Own H (Gch L S :: cs) F) : ∃ a k, Gsl L S = .slice a S.length k := by
  obtain ⟨a, k, C, h1, _⟩ := G_open h
  exact ⟨a, k, h1⟩
theorem snaps_append (bs bs' : List Nat) (S S' : List (List (List UInt8))) (h : bs.length = S.length) : snaps (bs ++ bs') (S ++ S') = snaps bs S ++ snaps bs' S' := by
  unfold snaps
  rw [List.zipWith_append h, List.flatten_append]
theorem G_push {Q : Option Addr → Nat → Nat → Heap → Prop} (hO : Own H0 (Gch L S :: cellE 9 bN (s.flatMap encS) :: cs) F) (hv : Gsl L S = .slice a m k) (hm : m + 1 ≤ 1000) (e : H = H0.push (.cells ⟨[snapV bN]⟩ 79))
    (hQ : ∀ L' a' k' H', Gsl L' (S ++ [s]) = .slice a' (m + 1) k' → Own H' (Gch L' (S ++ [s]) :: cs) F → L'.bs.getLast? = some bN → Q a' (m + 1) k' H') :
    ∃ l1 l2 : List Value, l1.length = m * 1 ∧ l2.length = 1 * 1 ∧ RowO H a l1 ∧ RowO H (some ⟨H0.size, 0, none⟩) l2 ∧ m + 1 ≤ 1000 ∧ true = true ∧
      (m + 1 ≤ k → ∃ p o : Nat, a = some ⟨p, o, none⟩ ∧ Wr H p (o + m * 1) (1 * 1) ∧ l2.all okCell = true ∧ ∀ H1 : Heap, H1 = hsets H p (o + m * 1) l2 → Q (some ⟨p, o, none⟩) (m + 1) k H1) ∧
      (k < m + 1 → ∀ (k1 : Nat) (H1 : Heap), m + 1 ≤ k1 → H1 = H.push (.cells (⟨l1 ++ l2⟩ ++ zrow Tryz.prog 79 (k1 - (m + 1))) 79) → Q (some ⟨H.size, 0, none⟩) (m + 1) k1 H1) := by
  obtain ⟨a', k', C, h1, h2, h3, h4⟩ := G_open hO
  rw [hv] at h1
  injection h1 with ha hmm hk
  subst ha hk
  rw [← hmm] at h3
  refine append_gv lenV1 z79 rfl h3 h4 hm e rfl ?_
  intro pre' a' k' C' H' hp hg hO'
  have hg' : GV 79 encV1 pre' ((L.bs ++ [bN]).map snapV) a' (m + 1) k' C' := by rw [List.map_append]; exact hg
  have hO2 : Own H' (C' :: snaps (L.bs ++ [bN]) (S ++ [s]) :: cs) F := by
    rw [snaps_append _ _ _ _ h2]
    exact hO'.cast (by simp [snaps])
  obtain ⟨L', h5, h5b, h6⟩ := G_close hg' (by simp [h2]) hO2
  exact hQ L' a' k' H' h5 h6 (by rw [h5b]; simp)
theorem G_pop (hO : Own H (Gch L (S ++ [s]) :: cs) F) (hv : Gsl L (S ++ [s]) = .slice a m k) : ∃ b o bN, a = some ⟨b, o, none⟩ ∧ m = S.length + 1 ∧ m ≤ k ∧ rd H b (o + S.length * 1) = some (snapV bN) ∧
    ∃ L', Gsl L' S = .slice a S.length k ∧ Own H (Gch L' S :: cellE 9 bN (s.flatMap encS) :: cs) F := by
  obtain ⟨a', k', C, h1, h2, h3, h4⟩ := G_open hO
  rw [hv] at h1
  injection h1 with ha hmm hk
  subst ha hk
  obtain ⟨bs, bN, hbs⟩ : ∃ bs bN, L.bs = bs ++ [bN] := by
    have hne : L.bs ≠ [] := fun hh => by rw [hh] at h2; simp at h2
    exact ⟨L.bs.dropLast, L.bs.getLast hne, (List.dropLast_concat_getLast hne).symm⟩
  rw [hbs] at h2 h3 h4
  simp only [List.length_append, List.length_cons, List.length_nil] at h2 hmm
  obtain ⟨h5, h6⟩ := h3
  rcases h6 with ⟨_, _, h0, _⟩ | ⟨b, x, rfl, rfl, rfl⟩
  · simp at h0
  rw [flatV1] at h4
  refine ⟨b, L.pre.length, bN, rfl, by omega, by simp at h5 ⊢; omega, ?_, ?_⟩
  · refine (h4.blk (.head _)).rdv ?_
    rw [List.append_assoc, List.getElem?_append_right (by omega), Nat.mul_one, Nat.add_sub_cancel_left, List.map_append, List.append_assoc, List.getElem?_append_right (by simp; omega)]
    simp
    rw [show S.length - bs.length = 0 by omega]
    rfl
  · rw [snaps_append _ _ _ _ (by omega)] at h4
    obtain ⟨L', h7, _, h8⟩ := G_close (H := H) (S := S) (cs := cellE 9 bN (s.flatMap encS) :: cs) (F := F) (a := some ⟨b, L.pre.length, none⟩) (m := S.length) (k := (bs ++ [bN]).length + x.length) (pre := L.pre) (bs := bs) (C := cellE 79 b (L.pre ++ bs.map snapV ++ (snapV bN :: x))) ⟨by simp; omega, .inr ⟨b, snapV bN :: x, rfl, by simp; omega, by rw [flatV1]⟩⟩ (by omega) (h4.cast (by simp [snaps]))
    exact ⟨L', by rw [h7]; simp, h8⟩
theorem G_drop1 (hO : Own H (Gch L (s :: S) :: cs) F) (hv : Gsl L (s :: S) = .slice a m k) : ∃ b o, a = some ⟨b, o, none⟩ ∧ m = S.length + 1 ∧ m ≤ k ∧
    ∃ L', Gsl L' S = .slice (some ⟨b, o + 1, none⟩) S.length (k - 1) ∧ Own H (Gch L' S :: cs) F := by
  obtain ⟨a', k', C, h1, h2, h3, h4⟩ := G_open hO
  rw [hv] at h1
  injection h1 with ha hmm hk
  subst ha hk
  obtain ⟨b0, bs, hbs⟩ : ∃ b0 bs, L.bs = b0 :: bs := by
    cases hh : L.bs with
    | nil => rw [hh] at h2; simp at h2
    | cons b0 bs => exact ⟨b0, bs, rfl⟩
  rw [hbs] at h2 h3 h4
  simp only [List.length_cons] at h2 hmm
  obtain ⟨h5, h6⟩ := h3
  rcases h6 with ⟨_, _, h0, _⟩ | ⟨b, x, rfl, rfl, rfl⟩
  · simp at h0
  rw [flatV1] at h4
  refine ⟨b, L.pre.length, rfl, by omega, by simp at h5 ⊢; omega, ?_⟩
  have h7 := G_close (H := H) (cs := cellE 9 b0 (s.flatMap encS) :: cs) (F := F) (S := S) (a := some ⟨b, L.pre.length + 1, none⟩) (m := S.length) (k := bs.length + x.length) (pre := L.pre ++ [snapV b0]) (bs := bs) (C := cellE 79 b (L.pre ++ [snapV b0] ++ bs.map snapV ++ x)) ⟨by simp; omega, .inr ⟨b, x, by simp, by simp, by rw [flatV1]⟩⟩ (by omega) (by
    have : snaps (b0 :: bs) (s :: S) = cellE 9 b0 (s.flatMap encS) ++ snaps bs S := by simp [snaps]
    rw [this] at h4
    have h8 : Own H (cellE 79 b (L.pre ++ [snapV b0] ++ bs.map snapV ++ x) :: cellE 9 b0 (s.flatMap encS) :: snaps bs S :: cs) F := h4.cast (by simp)
    exact pu1 (pu2 h8))
  obtain ⟨L', h8, _, h9⟩ := h7
  refine ⟨L', ?_, dr1 h9⟩
  rw [h8]
  simp
/-- The last snapshot on its own. -/
theorem G_view (hb : L.bs.getLast? = some bN) (hO : Own H (Gch L (S ++ [s]) :: cs) F) : ∃ X, Own H (X :: cellE 9 bN (s.flatMap encS) :: cs) F ∧ ∀ H' cs' F', Own H' (X :: cellE 9 bN (s.flatMap encS) :: cs') F' → Own H' (Gch L (S ++ [s]) :: cs') F' := by
  obtain ⟨h1, h2⟩ := hO.ok
  obtain ⟨bs, hbs⟩ : ∃ bs, L.bs = bs ++ [bN] := by
    have hne : L.bs ≠ [] := fun hh => by rw [hh] at hb; simp at hb
    refine ⟨L.bs.dropLast, ?_⟩
    rw [List.getLast?_eq_some_getLast hne] at hb
    rw [← Option.some.inj hb]
    exact (List.dropLast_concat_getLast hne).symm
  have hn : L.isnil = false := by
    cases hn : L.isnil with
    | false => rfl
    | true => have := h2 hn; simp at this
  have hl : bs.length = S.length := by rw [hbs] at h1; simpa using h1
  have key : Gch L (S ++ [s]) = (cellE 79 L.b (L.pre ++ L.bs.map snapV ++ L.ext) ++ snaps bs S) ++ cellE 9 bN (s.flatMap encS) := by
    unfold Gch
    rw [if_pos ⟨h1, h2⟩, hn]
    conv => lhs; rw [show snaps L.bs (S ++ [s]) = snaps bs S ++ snaps [bN] [s] by rw [hbs, snaps_append _ _ _ _ hl]]
    simp [snaps]
  rw [key] at hO ⊢
  exact ⟨cellE 79 L.b (L.pre ++ L.bs.map snapV ++ L.ext) ++ snaps bs S, hO.cast (by simp), fun H' cs' F' h => h.cast (by simp)⟩
end
end Go.Proofs.Qxb6500272aGreat
