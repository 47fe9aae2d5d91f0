/-
  Plain laws, values: calls; every lawful tree; load and run.
-/
import Derived.Test.Qxb6500272aGreatX7
namespace Go.Proofs.Qxb6500272aGreat
open Go
set_option linter.unusedVariables false
set_option linter.unusedSimpArgs false
def calI (f : Int) : InstrT := ⟨if f = 5 then 5 else if s218 f = true then 10 else 3, f, ⟨0, 0, []⟩, 0⟩
theorem s198_eq (S : VS) (f : Int) : s198 S f = s196 S (calI f).do_ (calI f).a (calI f).v (calI f).set := by
  have k : ∀ x, k198_0 S f x = s196 S x f ⟨0, 0, []⟩ 0 := by
    intro x
    unfold k198_0
    cases s196 S x f ⟨0, 0, []⟩ 0 <;> rfl
  unfold s198 calI
  simp only [k]
  by_cases h5 : f = 5
  · rw [if_pos h5, if_pos h5]
  · rw [if_neg h5, if_neg h5]
    by_cases hs : s218 f = true
    · rw [if_pos hs, if_pos hs]
    · rw [if_neg hs, if_neg hs]
theorem argv1 {ns : List NodeT} {env : List ValT} {v : Nat} {xs : List ValT} (h : ArgV ns env v xs) (hl : xs.length = 1) : ∃ (x : NodeT) (y : ValT) (w : Nat), xs = [y] ∧ ns[v]? = some x ∧ x.a = w ∧ w < v ∧ ValAt ns env w y := by
  cases h using ArgV.cs with
  | one h1 h2 h3 => exact ⟨_, _, _, rfl, h1, h2, by omega, h3⟩
  | more h1 h2 h3 h4 h5 h6 =>
    exfalso
    rw [List.length_append, List.length_singleton] at hl
    have : ∀ {a : Nat} {zs : List ValT}, ArgV ns env a zs → 0 < zs.length := by
      intro a zs h
      cases h using ArgV.cs <;> simp
    have := this h6
    omega
theorem argvm {ns : List NodeT} {env : List ValT} {v : Nat} {xs : List ValT} {k : Nat} (h : ArgV ns env v xs) (hl : xs.length = k + 2) : ∃ (x : NodeT) (y : ValT) (w a : Nat) (ys : List ValT), xs = ys ++ [y] ∧ ys.length = k + 1 ∧ ns[v]? = some x ∧ x.a = w ∧ w < v ∧ ValAt ns env w y ∧ x.b = a ∧ a < v ∧ ArgV ns env a ys := by
  cases h using ArgV.cs with
  | one h1 h2 h3 => simp at hl
  | more h1 h2 h3 h4 h5 h6 => exact ⟨_, _, _, _, _, rfl, by simp at hl; omega, h1, h2, by omega, h5, h3, by omega, h6⟩
theorem s208_bd {f n : Int} (h : s208 f n = true) : 1 ≤ f ∧ f ≤ 10 ∧ (f = 5 → n = 3) ∧ (8 ≤ f → n = 1) := by
  unfold s208 at h
  repeat' split at h
  all_goals first
    | (have := of_decide_eq_true h; omega)
    | cases h
theorem cv_call {ns : List NodeT} {lo v : Nat} {x : NodeT} {P : List InstrT} (hlen : ns.length ≤ 24) (hx : ns[v + 1]? = some x) (hk : x.kind = 8) (h8 : s208 x.op x.n = true) (ha : x.a = v) (hlo : lo ≤ v) (h : CA ns lo v P x.n x.op) : ∃ P, CV ns lo (v + 1) P := by
  have hv := get_lt2 hx
  obtain ⟨f1, f10, f5, f8⟩ := s208_bd h8
  have hwf : WfI (calI x.op) := by
    intro h
    unfold calI at h
    simp only at h
    repeat' split at h
    all_goals omega
  refine ⟨P ++ [calI x.op], CompP.cv (comp_over (p := some (v, x.op)) hlo (by simp) ?_ h.compP) (wf_snoc h.wf hwf) (rd_over (by omega) hx (by omega) rfl h.reads) ?_⟩
  · intro n hn g S s1 s2 s3 s4 _
    obtain ⟨S1, e1, c1⟩ := s196_ok (S := { S with owner := S.owner.set v x.op }) (e := (S.start - 1).toNat) (calI x.op).do_ (calI x.op).a (calI x.op).v (calI x.op).set (by show S.start = _; omega) (by omega) s1 (by show (S.owner.set _ _).length = 24; rw [List.length_set]; exact s2)
    refine ⟨S1, ?_, ?_, ?_⟩
    · obtain ⟨C, O, r1, r2, r3, r4, r5⟩ := c1
      refine ⟨C, O, r1, r2, r3, r4, fun j hj => ?_⟩
      rw [r5 j (by omega)]
      show (S.owner.set v x.op)[j]? = _
      rw [List.getElem?_set_ne (by omega)]
    · intro q f hq
      injection hq with hq
      injection hq with q1 q2
      subst q1; subst q2
      rw [c1.fields.2.2.2 v (by omega)]
      exact List.getElem?_set_self (by omega)
    · rw [l153_at S hx, if_neg (by omega), if_neg (by omega), if_neg (by omega), if_neg (by omega), if_neg (by omega), if_neg (by omega), if_pos hk]
      rw [bindT (getT (x := S.owner[v]'(by omega)) (by omega) (by omega) (by rw [ha, Int.toNat_natCast]; exact getL _)), ha, Int.toNat_natCast, s198_eq, bindT e1, k153_ok (by omega), show ((v + 1 : Nat) : Int) - 1 = (v : Int) by omega]
  · intro env hl he
    by_cases hs : s218 x.op = true
    · have hIt := tal_of f1 hs
      obtain ⟨T, F, q1, q2, q3⟩ := h.runT hs env hl he
      have hcn := h.cnt
      obtain ⟨e1, o1⟩ := shut_ok hIt q1 (by omega)
      refine ⟨shut x.op T, o1, ?_, q3.snoc ?_⟩
      · intro n g hn hg
        obtain ⟨g, rfl⟩ : ∃ g', g = g' + 1 := ⟨g - 1, by omega⟩
        apply rc204_at g hx
        have hne : ¬ x.op = 5 ∧ ¬ x.op = 8 ∧ ¬ x.op = 9 ∧ ¬ x.op = 10 := by unfold IsTal at hIt; omega
        unfold s204_b
        rw [bindT (getNd hx rfl), if_neg (by omega), if_neg (by omega), if_neg (by omega), if_neg (by omega), if_neg (by omega), if_pos hk, if_neg hne.1, if_neg hne.2.1, if_neg hne.2.2.1, if_neg hne.2.2.2, ha, bindT (q2 n g hn (by omega)), e1]
      · intro n hn S S1 t d hS ht hd
        have hne : ¬ x.op = 5 := by unfold IsTal at hIt; omega
        unfold calI
        rw [if_neg hne, if_pos hs]
        exact i_close _ _ hS (by omega) (by omega)
    · have hs' : s218 x.op = false := by simpa using hs
      obtain ⟨xs, c1, c2, c3, c4⟩ := h.runV hs' env hl he
      by_cases h5 : x.op = 5
      · have hn3 := f5 h5
        obtain ⟨x3, y3, w3, a3, ys, rfl, l3, g3, ga3, gw3, gv3, gb3, gl3, r3⟩ := argvm (k := 1) c3 (by omega)
        obtain ⟨x2, y2, w2, a2, zs, rfl, l2, g2, ga2, gw2, gv2, gb2, gl2, r2⟩ := argvm (k := 0) r3 (by omega)
        obtain ⟨x1, y1, w1, rfl, g1, ga1, gw1, gv1⟩ := argv1 r2 (by omega)
        have o : ∀ y ∈ [y1, y2, y3], Okv y := by simpa using c2
        refine ⟨s228 y1 y2 y3, s228_okv (o y1 (by simp)) (o y2 (by simp)) (o y3 (by simp)), ?_, c4.snoc ?_⟩
        · intro n g hn hg
          obtain ⟨g, rfl⟩ : ∃ g', g = g' + 1 := ⟨g - 1, by omega⟩
          apply rc204_at g hx
          unfold s204_b
          rw [bindT (getNd hx rfl), if_neg (by omega), if_neg (by omega), if_neg (by omega), if_neg (by omega), if_neg (by omega), if_pos hk, if_pos h5, bindT (getNd g3 ha), bindT (getNd g2 gb3), bindT (getNd g1 gb2), ga1, ga2, ga3, bindT (gv1 n g hn (by omega)), bindT (gv2 n g hn (by omega)), bindT (gv3 n g hn (by omega))]
        · intro n hn S S1 t d hS ht hd
          have hle := h.cnt
          unfold calI
          rw [if_pos h5]
          exact i_ch _ _ hS (by omega)
      · have h89 : x.op = 8 ∨ x.op = 9 ∨ x.op = 10 := by
          unfold s218 at hs'
          rw [if_neg h5] at hs'
          have := of_decide_eq_false hs'
          omega
        have hn1 := f8 (by omega)
        obtain ⟨x1, y1, w1, rfl, g1, ga1, gw1, gv1⟩ := argv1 c3 (by omega)
        have o1 := c2 y1 (by simp)
        obtain ⟨z, hz⟩ := s226_def (z := x.op) o1
        refine ⟨z, s226_okv o1 hz, ?_, c4.snoc ?_⟩
        · intro n g hn hg
          obtain ⟨g, rfl⟩ : ∃ g', g = g' + 1 := ⟨g - 1, by omega⟩
          apply rc204_at g hx
          unfold s204_b
          rw [bindT (getNd hx rfl), if_neg (by omega), if_neg (by omega), if_neg (by omega), if_neg (by omega), if_neg (by omega), if_pos hk, if_neg h5]
          have key : ((getN ns ns.length x.a).bind fun x141 => ((rc204 n g).1 ns ns.length x141.a env 24).bind fun r143 => (s226 x.op r143).bind fun r148 => some r148) = some z := by
            rw [bindT (getNd g1 ha), ga1, bindT (gv1 n g hn (by omega)), bindT hz]
          rcases h89 with h | h | h
          · rw [if_pos h]; exact key
          · rw [if_neg (by omega), if_pos h]; exact key
          · rw [if_neg (by omega), if_neg (by omega), if_pos h]; exact key
        · intro n hn S S1 t d hS ht hd
          unfold calI
          rw [if_neg h5, if_neg hs]
          exact i_un _ _ hS (by omega) hz
/-- Every lawful tree is compiled to a program that computes its worth. -/
theorem lw_all {ns : List NodeT} (hlen : ns.length ≤ 24) {k : Option Int} {r : Bool} {lo v : Nat} (h : Lw ns k r lo v) :
    (k = none → ∃ y P, ns[v]? = some y ∧ Chd ns lo v y P ∧ (y.kind = 4 → r = true)) ∧ (∀ m, k = some m → ∀ f, s209 f = r → 1 ≤ f → f ≤ 10 → ∃ P, CA ns lo v P m f) := by
  have cvn : ∀ {r : Bool} {lo v : Nat} {y : NodeT}, ns[v]? = some y → y.kind ≠ 4 → (∃ P, CV ns lo v P) → ((none : Option Int) = none → ∃ y P, ns[v]? = some y ∧ Chd ns lo v y P ∧ (y.kind = 4 → r = true)) ∧ (∀ m, (none : Option Int) = some m → ∀ f, s209 f = r → 1 ≤ f → f ≤ 10 → ∃ P, CA ns lo v P m f) := by
    intro r lo v y hy hk ⟨P, h⟩
    exact ⟨fun _ => ⟨y, P, hy, .inr ⟨hk, h⟩, fun h4 => absurd h4 hk⟩, fun m hm => by cases hm⟩
  have cvF : ∀ {lo v : Nat}, (∃ y P, ns[v]? = some y ∧ Chd ns lo v y P ∧ (y.kind = 4 → false = true)) → ∃ P, CV ns lo v P := by
    intro lo v ⟨y, P, h1, h2, h3⟩
    rcases h2 with ⟨h4, _⟩ | ⟨_, h5⟩
    · exact absurd (h3 h4) (by decide)
    · exact ⟨P, h5⟩
  have tal : ∀ {f : Int}, 1 ≤ f → f ≤ 10 → s209 f = true → s218 f = true := by
    intro f h1 h2 h3
    unfold s209 at h3
    unfold s218
    have : f = 1 ∨ f = 2 ∨ f = 3 ∨ f = 4 := by
      repeat' split at h3
      all_goals first | omega | (have := of_decide_eq_true h3; omega)
    rw [if_neg (by omega)]
    exact decide_eq_true (by omega)
  induction h using Lw.ind with
  | num h1 h2 h3 h4 h5 => exact cvn h1 (by omega) (cv_num hlen h1 h3 h4 h5)
  | tru h1 h2 h3 h4 h5 => exact cvn h1 (by omega) (cv_tru hlen h1 h3 h4 h5)
  | ref h1 h2 h3 => exact cvn h1 (by omega) (cv_ref hlen h1 h3)
  | err h1 h2 h3 => exact cvn h1 (by omega) (cv_err hlen h1 h3)
  | rng h1 h2 h3 => exact ⟨fun _ => ⟨_, [], h1, .inl ⟨h3, rfl, rfl⟩, fun _ => rfl⟩, fun m hm => by cases hm⟩
  | neg h1 h2 h3 h4 l1 ih =>
    obtain ⟨P, c⟩ := cvF (ih.1 rfl)
    exact cvn h1 (by omega) (cv_neg hlen h1 h3 h4 l1.le.1 c)
  | bin h1 h2 h3 h4 h5 h6 h7 l1 l2 ih1 ih2 =>
    obtain ⟨Q, c1⟩ := cvF (ih1.1 rfl)
    obtain ⟨P, c2⟩ := cvF (ih2.1 rfl)
    exact cvn h1 (by omega) (cv_bin hlen h1 h3 h6 h7 l2.le.1 (by have := l1.le; omega) c2 c1)
  | call h1 h2 h3 h4 h5 l1 ih =>
    obtain ⟨f1, f10, _, _⟩ := s208_bd h4
    obtain ⟨P, c⟩ := ih.2 _ rfl _ rfl f1 f10
    exact cvn h1 (by omega) (cv_call hlen h1 h3 h4 h5 l1.le.1 c)
  | one h1 h2 h3 h4 h5 l1 ih =>
    refine ⟨(fun h => by cases h), fun m hm f hf f1 f10 => ?_⟩
    injection hm with hm
    subst hm
    obtain ⟨y, P, g1, g2, g3⟩ := ih.1 rfl
    exact ca_one hlen h1 h3 h4 h5 g1 l1.le.1 f1 (fun h => tal f1 f10 (by rw [hf]; exact g3 h)) g2
  | @more r v lo a n x h1 h2 h3 h4 h5 h6 l1 l2 ih1 ih2 =>
    refine ⟨(fun h => by cases h), fun m hm f hf f1 f10 => ?_⟩
    injection hm with hm
    subst hm
    obtain ⟨y, Q, g1, g2, g3⟩ := ih1.1 rfl
    obtain ⟨P, c⟩ := ih2.2 _ rfl f hf f1 f10
    have hac := l2.argc _ rfl
    have hle := l1.le
    exact ca_more hlen h1 h3 h5 h6 g1 l2.le.1 (by omega) (by omega) (by omega) f1 (fun h => tal f1 f10 (by rw [hf]; exact g3 h)) g2 c
end Go.Proofs.Qxb6500272aGreat
