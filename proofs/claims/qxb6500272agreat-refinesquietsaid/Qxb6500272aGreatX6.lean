/-
  Plain laws, values: every lawful tree is compiled and run.
-/
import Derived.Test.Qxb6500272aGreatX5
namespace Go.Proofs.Qxb6500272aGreat
open Go
set_option linter.unusedVariables false
set_option linter.unusedSimpArgs false
def OwnAt (p : Option (Nat × Int)) (S : VS) : Prop := ∀ q f, p = some (q, f) → S.owner[q]? = some f
def CompP (ns : List NodeT) (lo v : Nat) (P : List InstrT) (p : Option (Nat × Int)) : Prop :=
  P.length ≤ 2 * (v + 1 - lo) ∧ ∀ n, 1000 ≤ n → ∀ (g : Nat) (S : VS), S.code.length = 48 → S.owner.length = 24 → 2 * ((v : Int) + 1) ≤ S.start → S.start ≤ 48 → OwnAt p S →
    ∃ S', CmpTo S P lo v S' ∧ l153_3 n ns ns.length (g + (v + 1 - lo)) (v : Int) S = l153_3 n ns ns.length g ((lo : Int) - 1) S'
theorem CV.compP {ns : List NodeT} {lo v : Nat} {P : List InstrT} (h : CV ns lo v P) : CompP ns lo v P none := ⟨h.len, fun n hn g S a b c d _ => h.comp n hn g S a b c d⟩
theorem CA.compP {ns : List NodeT} {lo v : Nat} {P : List InstrT} {m f : Int} (h : CA ns lo v P m f) : CompP ns lo v P (some (v, f)) := ⟨h.len, fun n hn g S a b c d e => h.comp n hn g S a b c d (e _ _ rfl)⟩
theorem comp_app {ns : List NodeT} {lo a v : Nat} {P Q : List InstrT} {p : Option (Nat × Int)} (hla : lo ≤ a) (hav : a < v) (hp : ∀ q f, p = some (q, f) → q ≤ a) (h1 : CompP ns lo a P p) (h2 : CompP ns (a + 1) v Q none) : CompP ns lo v (P ++ Q) p := by
  have l1 := h1.1
  have l2 := h2.1
  refine ⟨by rw [List.length_append]; omega, ?_⟩
  intro n hn g S s1 s2 s3 s4 ho
  obtain ⟨S1, c1, e1⟩ := h2.2 n hn (g + (a + 1 - lo)) S s1 s2 s3 s4 (fun _ _ h => by cases h)
  obtain ⟨f1, f2, f3, f4⟩ := c1.fields
  obtain ⟨S2, c2, e2⟩ := h1.2 n hn g S1 f1 f2 (by rw [f3]; omega) (by rw [f3]; omega) (fun q f hq => by rw [f4 q (by have := hp q f hq; omega)]; exact ho q f hq)
  refine ⟨S2, c1.trans c2 (by omega) (by omega) (by omega) (by omega), ?_⟩
  rw [show g + (v + 1 - lo) = g + (a + 1 - lo) + (v + 1 - (a + 1)) by omega, e1, show ((a + 1 : Nat) : Int) - 1 = (a : Int) by omega, e2]
theorem comp_over {ns : List NodeT} {lo v : Nat} {P Q : List InstrT} {p p' : Option (Nat × Int)} (hlo : lo ≤ v) (hQ : Q.length ≤ 2) (hs : ∀ n, 1000 ≤ n → ∀ (g : Nat) (S : VS), S.code.length = 48 → S.owner.length = 24 → 2 * ((v : Int) + 2) ≤ S.start → S.start ≤ 48 → OwnAt p' S →
    ∃ S1, CmpTo S Q lo (v + 1) S1 ∧ OwnAt p S1 ∧ l153_3 n ns ns.length (g + 1) ((v + 1 : Nat) : Int) S = l153_3 n ns ns.length g (v : Int) S1) (h : CompP ns lo v P p) : CompP ns lo (v + 1) (P ++ Q) p' := by
  have l1 := h.1
  refine ⟨by rw [List.length_append]; omega, ?_⟩
  intro n hn g S s1 s2 s3 s4 ho
  obtain ⟨S1, c1, o1, e1⟩ := hs n hn (g + (v + 1 - lo)) S s1 s2 (by omega) s4 ho
  obtain ⟨f1, f2, f3, f4⟩ := c1.fields
  obtain ⟨S2, c2, e2⟩ := h.2 n hn g S1 f1 f2 (by rw [f3]; omega) (by rw [f3]; omega) o1
  refine ⟨S2, c1.trans c2 (by omega) (by omega) (by omega) (by omega), ?_⟩
  rw [show g + (v + 1 + 1 - lo) = g + (v + 1 - lo) + 1 by omega, e1, e2]
theorem CmpTo.wide {S S' : VS} {P : List InstrT} {lo v lo' v' : Nat} (h : CmpTo S P lo v S') (h1 : lo' ≤ lo ∨ v < lo) (h2 : v ≤ v' ∨ v < lo) : CmpTo S P lo' v' S' := by
  obtain ⟨C, O, r1, r2, r3, r4, r5⟩ := h
  exact ⟨C, O, r1, r2, r3, r4, fun j hj => r5 j (by omega)⟩
/-- One emission at a node. -/
theorem comp_emit {ns : List NodeT} {lo v : Nat} {P : List InstrT} {i : InstrT} (hlo : lo ≤ v) (hv : v + 1 < 24) (hs : ∀ n, 1000 ≤ n → ∀ (g : Nat) (S : VS), l153_3 n ns ns.length (g + 1) ((v + 1 : Nat) : Int) S = (s196 S i.do_ i.a i.v i.set).bind fun r => k153_2 ((v + 1 : Nat) : Int) (l153_3 n ns ns.length g) r)
    (h : CompP ns lo v P none) : CompP ns lo (v + 1) (P ++ [i]) none := by
  refine comp_over hlo (by simp) ?_ h
  intro n hn g S s1 s2 s3 s4 _
  obtain ⟨S1, e1, c1⟩ := s196_ok (e := (S.start - 1).toNat) i.do_ i.a i.v i.set (by omega) (by omega) s1 s2
  refine ⟨S1, c1.wide (by omega) (by omega), (fun _ _ h => by cases h), ?_⟩
  rw [hs n hn, bindT e1, k153_ok (by omega), show ((v + 1 : Nat) : Int) - 1 = (v : Int) by omega]
theorem CompP.cv {ns : List NodeT} {lo v : Nat} {P : List InstrT} (h : CompP ns lo v P none) (wf : ∀ x ∈ P, WfI x) (reads : orI P = rdL (seg ns lo v))
    (run : ∀ env : List ValT, env.length = 24 → (∀ x ∈ env, Okv x) → ∃ x, Okv x ∧ ValAt ns env v x ∧ Run env P lo [x] []) : CV ns lo v P :=
  ⟨h.1, fun n hn g S a b c d => h.2 n hn g S a b c d (fun _ _ h => by cases h), wf, reads, run⟩
theorem wf_snoc {P : List InstrT} {i : InstrT} (h : ∀ x ∈ P, WfI x) (hi : WfI i) : ∀ x ∈ P ++ [i], WfI x := by
  intro x hx
  rcases List.mem_append.1 hx with hx | hx
  · exact h x hx
  · rw [List.mem_singleton.1 hx]; exact hi
theorem wf_app {P Q : List InstrT} (h : ∀ x ∈ P, WfI x) (h2 : ∀ x ∈ Q, WfI x) : ∀ x ∈ P ++ Q, WfI x := by
  intro x hx
  rcases List.mem_append.1 hx with hx | hx
  · exact h x hx
  · exact h2 x hx
theorem rdN_0 {x : NodeT} (h : x.kind ≠ 3 ∧ x.kind ≠ 4) : rdN x = 0 := by unfold rdN; rw [if_neg h.1, if_neg h.2]
theorem rd_over {ns : List NodeT} {lo v : Nat} {x : NodeT} {P : List InstrT} {i : InstrT} (hlo : lo ≤ v + 1) (hx : ns[v + 1]? = some x) (hk : x.kind ≠ 3 ∧ x.kind ≠ 4) (hi : i.set = 0) (h : orI P = rdL (seg ns lo v)) : orI (P ++ [i]) = rdL (seg ns lo (v + 1)) := by
  rw [orI_app, seg_snoc hlo hx, rdL_app, h]
  show _ ||| (i.set ||| 0) = _ ||| (rdN x ||| 0)
  rw [hi, rdN_0 hk]
theorem cv_neg {ns : List NodeT} {lo v : Nat} {x : NodeT} {P : List InstrT} (hlen : ns.length ≤ 24) (hx : ns[v + 1]? = some x) (hk : x.kind = 6) (ha : x.a = v) (hlo : lo ≤ v) (h : CV ns lo v P) : ∃ P, CV ns lo (v + 1) P := by
  have hv := get_lt2 hx
  refine ⟨P ++ [⟨3, 0, ⟨0, 0, []⟩, 0⟩], CompP.cv (comp_emit hlo (by omega) ?_ h.compP) (wf_snoc h.wf (fun h => by simp at h)) (rd_over (by omega) hx (by omega) rfl h.reads) ?_⟩
  · intro n hn g S
    rw [l153_at S hx, if_neg (by omega), if_neg (by omega), if_neg (by omega), if_neg (by omega), if_pos hk]
  · intro env hl he
    obtain ⟨y, o1, v1, r1⟩ := h.run env hl he
    obtain ⟨z, hz⟩ := s226_def (z := 0) o1
    refine ⟨z, s226_okv o1 hz, ?_, r1.snoc ?_⟩
    · intro n g hn hg
      obtain ⟨g, rfl⟩ : ∃ g', g = g' + 1 := ⟨g - 1, by omega⟩
      apply rc204_at g hx
      unfold s204_b
      rw [bindT (getNd hx rfl), if_neg (by omega), if_neg (by omega), if_neg (by omega), if_pos hk, ha, bindT (v1 n g hn (by omega)), bindT hz]
    · intro n hn S S1 t d hr ht hd
      exact i_un _ _ hr (by omega) hz
theorem cv_bin {ns : List NodeT} {lo a v : Nat} {x : NodeT} {P Q : List InstrT} (hlen : ns.length ≤ 24) (hx : ns[v + 1]? = some x) (hk : x.kind = 7) (hb : x.b = v) (ha : x.a = a) (hla : lo ≤ a) (hav : a < v) (h1 : CV ns lo a P) (h2 : CV ns (a + 1) v Q) : ∃ P, CV ns lo (v + 1) P := by
  have hv := get_lt2 hx
  have hc := comp_app hla hav (fun _ _ h => by cases h) h1.compP h2.compP
  refine ⟨(P ++ Q) ++ [⟨4, x.op, ⟨0, 0, []⟩, 0⟩], CompP.cv (comp_emit (by omega) (by omega) ?_ hc) (wf_snoc (wf_app h1.wf h2.wf) (fun h => by simp at h)) (rd_over (by omega) hx (by omega) rfl ?_) ?_⟩
  · intro n hn g S
    rw [l153_at S hx, if_neg (by omega), if_neg (by omega), if_neg (by omega), if_neg (by omega), if_neg (by omega), if_pos hk]
  · rw [orI_app, seg_app (a := a) (by omega) (by omega) (by omega), rdL_app, h1.reads, h2.reads]
  · intro env hl he
    obtain ⟨y, o1, v1, r1⟩ := h1.run env hl he
    obtain ⟨z, o2, v2, r2⟩ := h2.run env hl he
    obtain ⟨w, hw, o3⟩ := s221_def (z := x.op) o1 o2
    rw [s221_eq] at hw
    refine ⟨w, o3, ?_, (r1.app r2 (by simp; omega) (by simp; omega)).snoc ?_⟩
    · intro n g hn hg
      obtain ⟨g, rfl⟩ : ∃ g', g = g' + 1 := ⟨g - 1, by omega⟩
      apply rc204_at g hx
      unfold s204_b
      rw [bindT (getNd hx rfl), if_neg (by omega), if_neg (by omega), if_neg (by omega), if_neg (by omega), if_pos hk, ha, hb, bindT (v1 n g hn (by omega)), bindT (v2 n g hn (by omega)), bindT hw]
    · intro n hn S S1 t d hr ht hd
      exact i_bin _ _ hr (by omega) hw
/-! ### Links -/
def takI (f : Int) (y : NodeT) : InstrT := if y.kind = 4 then (if (blkS y.r1 y.r2).2 = true then ⟨8, f, ⟨0, 0, []⟩, (blkS y.r1 y.r2).1⟩ else ⟨9, f, ⟨0, 0, []⟩, 0⟩) else ⟨7, f, ⟨0, 0, []⟩, 0⟩
def opI (f : Int) : InstrT := ⟨6, f, ⟨0, 0, []⟩, 0⟩
def lnkI (f : Int) (x y : NodeT) : List InstrT := if s218 f = true then (if x.b < 0 then [opI f, takI f y] else [takI f y]) else []
theorem takI_set (f : Int) (y : NodeT) (h3 : y.kind = 4) : (takI f y).set = rdN y := by
  have e : rdN y = (blkS y.r1 y.r2).1 := by unfold rdN; rw [if_neg (by omega), if_pos h3]
  rw [e]
  unfold takI
  rw [if_pos h3]
  split
  · rfl
  · rename_i h
    unfold blkS at h ⊢
    split
    · rename_i h2; rw [if_pos h2] at h; exact absurd rfl h
    · rfl
theorem takI_set0 (f : Int) (y : NodeT) (h3 : y.kind ≠ 4) : (takI f y).set = 0 := by
  unfold takI; rw [if_neg h3]
theorem takI_wf (f : Int) (y : NodeT) : WfI (takI f y) := by
  unfold takI WfI
  repeat' split
  all_goals intro h; simp at h
theorem s199_ok {n : Nat} (hn : 1000 ≤ n) {ns : List NodeT} {v : Nat} {x y : NodeT} {f : Int} {S : VS} (hlen : ns.length ≤ 24) (hx : ns[v + 1]? = some x) (ha : x.a = v) (hy : ns[v]? = some y) (hb : x.b = -1 ∨ ∃ a : Nat, x.b = a ∧ a < v) (s1 : S.code.length = 48) (s2 : S.owner.length = 24) (s3 : 2 * ((v : Int) + 2) ≤ S.start) (s4 : S.start ≤ 48) (ho : S.owner[v + 1]? = some f) :
    ∃ S1, s199 n S ns ns.length ((v + 1 : Nat) : Int) = some S1 ∧ CmpTo S (lnkI f x y) (if x.b < 0 then v + 1 else x.b.toNat) (v + 1) S1 ∧ (∀ a : Nat, x.b = a → S1.owner[a]? = some f) := by
  have hv := get_lt2 hx
  have k2 : ∀ (S0 : VS) (i : InstrT), S0.code.length = 48 → S0.owner.length = 24 → S0.start = S.start → i.a = f → i.v = ⟨0, 0, []⟩ → ∃ S1, k199_2 x f S0 i.do_ i.set = some S1 ∧ CmpTo S0 (if x.b < 0 then [opI f, i] else [i]) 1 0 S1 := by
    intro S0 i h1 h2 h3 h4 h5
    obtain ⟨S1, e1, c1⟩ := s196_ok (S := S0) (e := (S.start - 1).toNat) i.do_ f ⟨0, 0, []⟩ i.set (by omega) (by omega) h1 h2
    have hi : (⟨i.do_, f, ⟨0, 0, []⟩, i.set⟩ : InstrT) = i := by rw [← h4, ← h5]
    rw [hi] at c1
    unfold k199_2
    rw [bindT e1]
    by_cases hb0 : x.b < 0
    · rw [if_pos hb0, if_pos hb0]
      obtain ⟨f1, f2, f3, f4⟩ := c1.fields
      simp at f3
      obtain ⟨S2, e2, c2⟩ := s196_ok (S := S1) (e := (S.start - 2).toNat) 6 f ⟨0, 0, []⟩ 0 (by omega) (by omega) f1 f2
      exact ⟨S2, bindR e2, c1.trans c2 (by omega) (by omega) (by omega) (by omega)⟩
    · rw [if_neg hb0, if_neg hb0]
      exact ⟨S1, rfl, c1⟩
  have k3 : ∀ (S0 : VS), S0.code.length = 48 → S0.owner.length = 24 → S0.start = S.start → ∃ S1, k199_3 n ns ns.length x f S0 = some S1 ∧ CmpTo S0 (lnkI f x y) 1 0 S1 := by
    intro S0 h1 h2 h3
    unfold k199_3 lnkI
    by_cases hf : s218 f = true
    · rw [if_pos hf, if_pos hf, bindT (getNd hy ha)]
      unfold takI
      by_cases h4 : y.kind = 4
      · rw [if_pos h4, if_pos h4, bindT (s149_ok (by omega) y.r1 y.r2)]
        by_cases hq : (blkS y.r1 y.r2).2 = true
        · rw [if_pos hq, if_pos hq]
          exact k2 S0 ⟨8, f, ⟨0, 0, []⟩, (blkS y.r1 y.r2).1⟩ h1 h2 h3 rfl rfl
        · rw [if_neg hq, if_neg hq]
          exact k2 S0 ⟨9, f, ⟨0, 0, []⟩, 0⟩ h1 h2 h3 rfl rfl
      · rw [if_neg h4, if_neg h4]
        exact k2 S0 ⟨7, f, ⟨0, 0, []⟩, 0⟩ h1 h2 h3 rfl rfl
    · rw [if_neg hf, if_neg hf]
      exact ⟨S0, rfl, CmpTo.nil h1 h2⟩
  unfold s199
  rw [bindT (getNd hx rfl), bindT (getT (x := f) (by omega) (by omega) (by rw [Int.toNat_natCast]; exact ho))]
  rcases hb with hb | ⟨a, hb, hab⟩
  · rw [if_neg (by omega), if_pos (by omega : x.b < 0)]
    obtain ⟨S1, e1, c1⟩ := k3 S s1 s2 rfl
    exact ⟨S1, e1, c1.wide (by omega) (by omega), fun a h => by omega⟩
  · rw [if_pos (by omega), if_neg (by omega : ¬ x.b < 0)]
    rw [bindT (getT (x := S.owner[a]'(by omega)) (by omega) (by omega) (by rw [hb, Int.toNat_natCast]; exact getL _))]
    obtain ⟨S1, e1, c1⟩ := k3 { S with owner := S.owner.set x.b.toNat f } s1 (by show (S.owner.set _ _).length = 24; rw [List.length_set]; exact s2) rfl
    refine ⟨S1, e1, ?_, ?_⟩
    · obtain ⟨C, O, r1, r2, r3, r4, r5⟩ := c1
      refine ⟨C, O, r1, r2, r3, r4, fun j hj => ?_⟩
      rw [r5 j (by omega)]
      show (S.owner.set x.b.toNat f)[j]? = _
      rw [List.getElem?_set_ne (by omega)]
    · intro a' h'
      have : a' = a := by omega
      subst this
      obtain ⟨f1, f2, f3, f4⟩ := c1.fields
      rw [f4 a' (by omega)]
      show (S.owner.set x.b.toNat f)[a']? = _
      rw [hb, Int.toNat_natCast]
      exact List.getElem?_set_self (by omega)
theorem comp_link {ns : List NodeT} {lo v : Nat} {x y : NodeT} {f : Int} {P : List InstrT} {p : Option (Nat × Int)} (hlen : ns.length ≤ 24) (hlo : lo ≤ v) (hx : ns[v + 1]? = some x) (hk : x.kind = 9) (ha : x.a = v) (hy : ns[v]? = some y) (hb : (x.b = -1 ∧ p = none) ∨ ∃ a : Nat, x.b = a ∧ lo ≤ a ∧ a < v ∧ p = some (a, f)) (h : CompP ns lo v P p) : CompP ns lo (v + 1) (P ++ lnkI f x y) (some (v + 1, f)) := by
  have hv := get_lt2 hx
  refine comp_over hlo (by unfold lnkI; repeat' split
                           all_goals simp) ?_ h
  intro n hn g S s1 s2 s3 s4 ho
  have hb' : x.b = -1 ∨ ∃ a : Nat, x.b = a ∧ a < v := by
    rcases hb with h | ⟨a, h1, h2, h3, h4⟩
    · exact Or.inl h.1
    · exact Or.inr ⟨a, h1, h3⟩
  obtain ⟨S1, e1, c1, o1⟩ := s199_ok hn hlen hx ha hy hb' s1 s2 s3 s4 (ho _ _ rfl)
  refine ⟨S1, c1.wide ?_ (by omega), ?_, ?_⟩
  · rcases hb with h | ⟨a, h1, h2, h3, h4⟩
    · rw [if_pos (by omega)]; omega
    · rw [if_neg (by omega)]; omega
  · intro q f' hq
    rcases hb with h | ⟨a, h1, h2, h3, h4⟩
    · rw [h.2] at hq; cases hq
    · rw [h4] at hq
      injection hq with hq
      injection hq with q1 q2
      subst q1; subst q2
      exact o1 a h1
  · rw [l153_at S hx, if_neg (by omega), if_neg (by omega), if_neg (by omega), if_neg (by omega), if_neg (by omega), if_neg (by omega), if_neg (by omega), if_pos hk, bindT e1, k153_ok (by omega), show ((v + 1 : Nat) : Int) - 1 = (v : Int) by omega]
theorem comp_rng {ns : List NodeT} {v : Nat} {x : NodeT} (hlen : ns.length ≤ 24) (hx : ns[v]? = some x) (hk : x.kind = 4) : CompP ns v v [] none := by
  have hv := get_lt2 hx
  refine ⟨by simp, ?_⟩
  intro n hn g S s1 s2 s3 s4 ho
  refine ⟨S, CmpTo.nil s1 s2, ?_⟩
  rw [show g + (v + 1 - v) = g + 1 by omega, l153_at S hx, if_neg (by omega), if_neg (by omega), if_neg (by omega), if_neg (by omega), if_neg (by omega), if_neg (by omega), if_neg (by omega), if_neg (by omega), k153_ok (by omega)]
theorem tal_of {f : Int} (h1 : 1 ≤ f) (h : s218 f = true) : IsTal f := by
  unfold s218 at h
  split at h
  · cases h
  · have := of_decide_eq_true h
    unfold IsTal; omega
/-- One more argument of a folding function: on the running side. -/
theorem run_tak {env : List ValT} {P : List InstrT} {lo : Nat} {f : Int} {k : Nat} {T : TallyT} {F : FoldT} {y : NodeT} (Q : ValT → Prop) (hl : env.length = 24) (he : ∀ x ∈ env, Okv x) (hf : IsTal f) (hF : FoldR f k T F) (hk : k ≤ 1000) (hlo : lo < 24)
    (hy : (y.kind = 4 ∧ Run env P lo [] [T]) ∨ (y.kind ≠ 4 ∧ ∃ x, Okv x ∧ Q x ∧ Run env P lo [x] [T])) :
    ∃ T' F', FoldR f (k + 24) T' F' ∧ Run env (P ++ [takI f y]) lo [] [T'] ∧
      (y.kind = 4 → ∀ n, 1000 ≤ n → ((s149 n y.r1 y.r2).bind fun r47 => (if r47.2 = true then (l229_3 n f env 24 r47 n (0 : Int) F) else (s240 F f (s131 (2 : Int)) true).bind fun r55 => some r55)) = some F') ∧
      (y.kind ≠ 4 → ∃ x, Q x ∧ s240 F f x false = some F') := by
  rcases hy with ⟨h4, hr⟩ | ⟨h4, x, ox, hq, hr⟩
  · by_cases hq : (blkS y.r1 y.r2).2 = true
    · obtain ⟨T', F', r1, r2, r3⟩ := sweep_ok hf (blkS y.r1 y.r2).1 true env hl he 24 0 k T F (by omega) (by omega) hF
      refine ⟨T', F', r1, ?_, ?_, fun h => absurd h4 h⟩
      · refine hr.snoc ?_
        intro n hn S S1 t d hS ht hd
        unfold takI
        rw [if_pos h4, if_pos hq]
        refine ⟨fo S1 d T', ?_, hS.fold (by omega)⟩
        unfold s201
        rw [if_neg (by show ¬ (8 : Int) = 1; decide), if_neg (by show ¬ (8 : Int) = 2; decide), if_neg (by show ¬ (8 : Int) = 3; decide), if_neg (by show ¬ (8 : Int) = 4; decide), if_neg (by show ¬ (8 : Int) = 5; decide), if_neg (by show ¬ (8 : Int) = 6; decide), if_neg (by show ¬ (8 : Int) = 7; decide), if_pos (by rfl)]
        exact bindR (r3 n n S1 d (by omega) hS.rdy.deep (by omega) (hS.tal (i := 0) rfl))
      · intro _ n hn
        rw [bindT (s149_ok (by omega) y.r1 y.r2), if_pos hq]
        have := r2 n n (by omega)
        rw [show ((blkS y.r1 y.r2).1, true) = blkS y.r1 y.r2 by rw [← hq]] at this
        exact this
    · obtain ⟨F', e1, r1⟩ := tak_ok true hf hF (by omega) (okv_err (n := 2) (by decide))
      refine ⟨_, F', r1.le (by omega), ?_, ?_, fun h => absurd h4 h⟩
      · refine hr.snoc ?_
        intro n hn S S1 t d hS ht hd
        unfold takI
        rw [if_pos h4, if_neg hq]
        exact i_lost _ _ hS (by omega) hf hF (by omega)
      · intro _ n hn
        rw [bindT (s149_ok (by omega) y.r1 y.r2), if_neg hq, bindT e1]
  · obtain ⟨F', e1, r1⟩ := tak_ok false hf hF (by omega) ox
    refine ⟨_, F', r1.le (by omega), ?_, fun h => absurd h h4, fun _ => ⟨x, hq, e1⟩⟩
    refine hr.snoc ?_
    intro n hn S S1 t d hS ht hd
    unfold takI
    rw [if_neg h4]
    exact i_take _ _ hS (by omega) (by omega) hf hF (by omega) ox
end Go.Proofs.Qxb6500272aGreat
