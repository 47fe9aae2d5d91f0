/-
  Plain laws, values: arguments and calls; every lawful tree.
-/
import Derived.Test.Qxb6500272aGreatX6
namespace Go.Proofs.Qxb6500272aGreat
open Go
set_option linter.unusedVariables false
set_option linter.unusedSimpArgs false
/-- An argument's tree: a range, or a tree with a worth. -/
def Chd (ns : List NodeT) (lo v : Nat) (y : NodeT) (P : List InstrT) : Prop := (y.kind = 4 ∧ lo = v ∧ P = []) ∨ (y.kind ≠ 4 ∧ CV ns lo v P)
theorem Run.nil (env : List ValT) (lo : Nat) : Run env [] lo [] [] := by
  intro n hn S t d hr ht hd
  have h1 := hr.top
  have h2 := hr.deep
  refine ⟨S, rfl, S.stack, S.folds, ?_, hr.st, hr.fo, fun _ _ => rfl, fun i x hx => by simp at hx, fun _ _ => rfl, fun i x hx => by simp at hx⟩
  simp only [List.length_nil, Nat.add_zero]
  rw [← h1, ← h2]
theorem fol_step {ns : List NodeT} {env : List ValT} {f : Int} {v : Nat} {x y : NodeT} {F0 F' : FoldT} (hx : ns[v + 1]? = some x) (ha : x.a = v) (hy : ns[v]? = some y)
    (h0 : ∀ n g, 1000 ≤ n → v < g → (rc204 n g).2 ns ns.length x.b f env 24 = some F0)
    (h4 : y.kind = 4 → ∀ n, 1000 ≤ n → ((s149 n y.r1 y.r2).bind fun r47 => (if r47.2 = true then (l229_3 n f env 24 r47 n (0 : Int) F0) else (s240 F0 f (s131 (2 : Int)) true).bind fun r55 => some r55)) = some F')
    (h5 : y.kind ≠ 4 → ∃ z, ValAt ns env v z ∧ s240 F0 f z false = some F') : FolAt ns env f (v + 1) F' := by
  intro n g hn hg
  obtain ⟨g, rfl⟩ : ∃ g', g = g' + 1 := ⟨g - 1, by omega⟩
  show s229_b n (rc204 n g).1 (rc204 n g).2 ns ns.length ((v + 1 : Nat) : Int) f env 24 = _
  unfold s229_b
  rw [if_neg (by omega), bindT (getNd hx rfl), bindT (h0 n g hn (by omega)), bindT (getNd hy ha)]
  by_cases hk : y.kind = 4
  · rw [if_pos hk]; exact h4 hk n hn
  · rw [if_neg hk]
    obtain ⟨z, z1, z2⟩ := h5 hk
    rw [ha, bindT (z1 n g hn (by omega)), bindT z2]
theorem orI_lnk0 {f : Int} {x y : NodeT} (h : y.kind ≠ 4) : orI (lnkI f x y) = 0 := by
  unfold lnkI
  repeat' split
  · show (opI f).set ||| ((takI f y).set ||| 0) = 0
    rw [takI_set0 f y h]; simp [opI]
  · show (takI f y).set ||| 0 = 0
    rw [takI_set0 f y h]; simp
  · rfl
theorem orI_lnk4 {f : Int} {x y : NodeT} (h : y.kind = 4) (hf : s218 f = true) : orI (lnkI f x y) = rdN y := by
  unfold lnkI
  rw [if_pos hf]
  split
  · show (opI f).set ||| ((takI f y).set ||| 0) = _
    rw [takI_set f y h]; simp [opI]
  · show (takI f y).set ||| 0 = _
    rw [takI_set f y h]; simp
theorem lnk_wf (f : Int) (x y : NodeT) : ∀ i ∈ lnkI f x y, WfI i := by
  intro i hi
  unfold lnkI at hi
  have ho : WfI (opI f) := fun h => by simp [opI] at h
  split at hi
  · split at hi
    · rcases List.mem_cons.1 hi with hi | hi
      · rw [hi]; exact ho
      · rw [List.mem_singleton.1 hi]; exact takI_wf _ _
    · rw [List.mem_singleton.1 hi]; exact takI_wf _ _
  · cases hi
theorem ca_one {ns : List NodeT} {lo v : Nat} {x y : NodeT} {f : Int} {P : List InstrT} (hlen : ns.length ≤ 24) (hx : ns[v + 1]? = some x) (hk : x.kind = 9) (ha : x.a = v) (hb : x.b = -1) (hy : ns[v]? = some y) (hlo : lo ≤ v) (hf1 : 1 ≤ f) (hf : y.kind = 4 → s218 f = true) (h : Chd ns lo v y P) : ∃ P, CA ns lo (v + 1) P 1 f := by
  have hv := get_lt2 hx
  have hcp : CompP ns lo v P none := by
    rcases h with ⟨h1, rfl, rfl⟩ | ⟨h1, h2⟩
    · exact comp_rng hlen hy h1
    · exact h2.compP
  have hc := comp_link (f := f) hlen hlo hx hk ha hy (.inl ⟨hb, rfl⟩) hcp
  have hbn : x.b < 0 := by omega
  have hwf : ∀ i ∈ P, WfI i := by
    rcases h with ⟨h1, rfl, rfl⟩ | ⟨h1, h2⟩
    · intro i hi; cases hi
    · exact h2.wf
  refine ⟨P ++ lnkI f x y, hc.1, by show 1 + lo ≤ _; omega, fun n hn g S a b c d e => hc.2 n hn g S a b c d (fun q f' hq => by injection hq with hq; injection hq with q1 q2; subst q1; subst q2; exact e), wf_app hwf (lnk_wf _ _ _), ?_, ?_, ?_⟩
  · rw [orI_app, seg_snoc (by omega) hx, rdL_app]
    rcases h with ⟨h1, rfl, rfl⟩ | ⟨h1, h2⟩
    · rw [orI_lnk4 h1 (hf h1), seg_one hy]
      show 0 ||| rdN y = (rdN y ||| 0) ||| (rdN x ||| 0)
      rw [rdN_0 (x := x) (by omega)]; simp
    · rw [orI_lnk0 h1, h2.reads]
      show _ ||| 0 = _ ||| (rdN x ||| 0)
      rw [rdN_0 (x := x) (by omega)]; simp
  · intro hs env hl he
    have hIt := tal_of hf1 hs
    have hrun : (y.kind = 4 ∧ Run env (P ++ [opI f]) lo [] [⟨⟨0, 0, []⟩, 0, 0⟩]) ∨ (y.kind ≠ 4 ∧ ∃ z, Okv z ∧ ValAt ns env v z ∧ Run env (P ++ [opI f]) lo [z] [⟨⟨0, 0, []⟩, 0, 0⟩]) := by
      rcases h with ⟨h1, rfl, rfl⟩ | ⟨h1, h2⟩
      · exact .inl ⟨h1, (Run.nil env lo).snoc fun n hn S S1 t d hS ht hd => i_open _ _ hS (by omega)⟩
      · obtain ⟨z, z1, z2, z3⟩ := h2.run env hl he
        exact .inr ⟨h1, z, z1, z2, z3.snoc fun n hn S S1 t d hS ht hd => i_open _ _ hS (by omega)⟩
    obtain ⟨T', F', r1, r2, r3, r4⟩ := run_tak (ValAt ns env v) hl he hIt (foldR_0 f) (by omega) (by omega) hrun
    refine ⟨T', F', r1, ?_, ?_⟩
    · refine fol_step hx ha hy ?_ r3 r4
      intro n g hn hg
      obtain ⟨g, rfl⟩ : ∃ g', g = g' + 1 := ⟨g - 1, by omega⟩
      show s229_b n (rc204 n g).1 (rc204 n g).2 ns ns.length x.b f env 24 = _
      unfold s229_b
      rw [if_pos hbn]
    · unfold lnkI
      rw [if_pos hs, if_pos hbn]
      rw [List.append_assoc] at r2
      exact r2
  · intro hs env hl he
    rcases h with ⟨h1, rfl, rfl⟩ | ⟨h1, h2⟩
    · rw [hf h1] at hs; cases hs
    · obtain ⟨z, z1, z2, z3⟩ := h2.run env hl he
      refine ⟨[z], rfl, fun w hw => by rw [List.mem_singleton.1 hw]; exact z1, .one hx ha z2, ?_⟩
      unfold lnkI
      rw [if_neg (by rw [hs]; decide), List.append_nil]
      exact z3
theorem ca_more {ns : List NodeT} {lo a v : Nat} {x y : NodeT} {f m : Int} {P Q : List InstrT} (hlen : ns.length ≤ 24) (hx : ns[v + 1]? = some x) (hk : x.kind = 9) (ha : x.a = v) (hb : x.b = a) (hy : ns[v]? = some y) (hlo : lo ≤ a) (hav : a < v) (hm : 1 ≤ m - 1) (hm2 : m ≤ 30) (hf1 : 1 ≤ f) (hf : y.kind = 4 → s218 f = true) (h : Chd ns (a + 1) v y Q) (h2 : CA ns lo a P (m - 1) f) : ∃ P, CA ns lo (v + 1) P m f := by
  have hv := get_lt2 hx
  have hcp : CompP ns (a + 1) v Q none := by
    rcases h with ⟨h1, rfl, rfl⟩ | ⟨h1, h2⟩
    · exact comp_rng hlen hy h1
    · exact h2.compP
  have hcc := comp_app hlo hav (fun q f' hq => by injection hq with hq; injection hq with q1 q2; omega) h2.compP hcp
  have hc := comp_link (f := f) hlen (by omega) hx hk ha hy (.inr ⟨a, hb, hlo, hav, rfl⟩) hcc
  have hbn : ¬ x.b < 0 := by omega
  have hwf : ∀ i ∈ Q, WfI i := by
    rcases h with ⟨h1, rfl, rfl⟩ | ⟨h1, h2⟩
    · intro i hi; cases hi
    · exact h2.wf
  refine ⟨(P ++ Q) ++ lnkI f x y, hc.1, by have := h2.cnt; omega, fun n hn g S a b c d e => hc.2 n hn g S a b c d (fun q f' hq => by injection hq with hq; injection hq with q1 q2; subst q1; subst q2; exact e), wf_app (wf_app h2.wf hwf) (lnk_wf _ _ _), ?_, ?_, ?_⟩
  · rw [orI_app, orI_app, seg_snoc (by omega) hx, seg_app (a := a) (by omega) (by omega) (by omega), rdL_app, rdL_app, h2.reads]
    rcases h with ⟨h1, rfl, rfl⟩ | ⟨h1, h3⟩
    · rw [orI_lnk4 h1 (hf h1), seg_one hy]
      show (_ ||| 0) ||| rdN y = (_ ||| (rdN y ||| 0)) ||| (rdN x ||| 0)
      rw [rdN_0 (x := x) (by omega)]; simp
    · rw [orI_lnk0 h1, h3.reads]
      show _ ||| 0 = _ ||| (rdN x ||| 0)
      rw [rdN_0 (x := x) (by omega)]; simp
  · intro hs env hl he
    have hIt := tal_of hf1 hs
    obtain ⟨T, F, q1, q2, q3⟩ := h2.runT hs env hl he
    have hrun : (y.kind = 4 ∧ Run env (P ++ Q) lo [] [T]) ∨ (y.kind ≠ 4 ∧ ∃ z, Okv z ∧ ValAt ns env v z ∧ Run env (P ++ Q) lo [z] [T]) := by
      rcases h with ⟨h1, rfl, rfl⟩ | ⟨h1, h3⟩
      · exact .inl ⟨h1, by rw [List.append_nil]; exact q3⟩
      · obtain ⟨z, z1, z2, z3⟩ := h3.run env hl he
        exact .inr ⟨h1, z, z1, z2, q3.app z3 (by simp; omega) (by simp; omega)⟩
    obtain ⟨T', F', r1, r2, r3, r4⟩ := run_tak (ValAt ns env v) hl he hIt q1 (by omega) (by omega) hrun
    refine ⟨T', F', by rw [show 24 * m.toNat = 24 * (m - 1).toNat + 24 by omega]; exact r1, ?_, ?_⟩
    · refine fol_step hx ha hy ?_ r3 r4
      intro n g hn hg
      rw [hb]
      exact q2 n g hn (by omega)
    · unfold lnkI
      rw [if_pos hs, if_neg hbn]
      exact r2
  · intro hs env hl he
    rcases h with ⟨h1, rfl, rfl⟩ | ⟨h1, h3⟩
    · rw [hf h1] at hs; cases hs
    · obtain ⟨z, z1, z2, z3⟩ := h3.run env hl he
      obtain ⟨zs, w1, w2, w3, w4⟩ := h2.runV hs env hl he
      have hln := h2.cnt
      refine ⟨zs ++ [z], by simp; omega, fun w hw => ?_, .more hx ha hb hav z2 w3, ?_⟩
      · rcases List.mem_append.1 hw with hw | hw
        · exact w2 w hw
        · rw [List.mem_singleton.1 hw]; exact z1
      · unfold lnkI
        rw [if_neg (by rw [hs]; decide), List.append_nil]
        exact w4.app z3 (by omega) (by simp; omega)
end Go.Proofs.Qxb6500272aGreat
