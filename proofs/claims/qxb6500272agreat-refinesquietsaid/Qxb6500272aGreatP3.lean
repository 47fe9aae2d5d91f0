/-
  Plain laws, printing: every lawful tree has its text; both sides give it.
-/
import Derived.Test.Qxb6500272aGreatP2
namespace Go.Proofs.Qxb6500272aGreat
open Go
set_option linter.unusedVariables false
set_option linter.unusedSimpArgs false
theorem k151_0_ok {x : NodeT} {z : Int} {t : List UInt8} (ht : t.length ≤ 1000) : k151_0 z x t = some (bq (decide (s190 x < z)) t) := by
  unfold k151_0 bq
  by_cases h : s190 x < z
  · rw [if_pos h, if_pos (decide_eq_true h), ckF (by simp only [List.length_singleton]; omega), ckF (by simp only [List.length_append, List.length_singleton]; omega), List.append_assoc]
  · rw [if_neg h, if_neg (by simpa using h)]
/-- What a leaf must be. -/
structure Leaf (x : NodeT) : Prop where
  kind : x.kind = 1 ∧ 0 ≤ x.n ∧ x.n ≤ 999999999 ∨ x.kind = 2 ∨ x.kind = 3 ∨ x.kind = 4 ∨ x.kind = 5
  rb : RB x
theorem Leaf.len {x : NodeT} (h : Leaf x) : (leafT x).length ≤ 11 := by
  have h1 := rT_len h.rb.1
  have h2 := rT_len h.rb.2
  have h3 := dg_len x.n.toNat
  unfold leafT
  split
  · omega
  split
  · split <;> simp
  split
  · omega
  split
  · simp only [List.length_append, List.length_singleton]; omega
  · simp
theorem Leaf.pos (x : NodeT) : 0 < (leafT x).length := by
  have h1 : ∀ q, 0 < (rT q).length := by intro q; unfold rT; simp only [List.length_append, List.length_cons]; omega
  have h3 : ∀ y, 0 < (dg y).length := by
    intro y
    unfold dg
    by_cases h : y = 0
    · rw [if_pos h]; simp
    · rw [if_neg h]
      show 0 < (if y = 0 then [] else dgA 8 (y / 10) [dC y]).length
      rw [if_neg h, dgA_acc]
      simp
  unfold leafT
  split
  · exact h3 _
  split
  · split <;> simp
  split
  · exact h1 _
  split
  · simp only [List.length_append, List.length_cons]; omega
  · simp
theorem Leaf.fill {n : Nat} {x : NodeT} (hn : 100 ≤ n) (h : Leaf x) (S : FoS) (hr : Room S (leafT x).length) : s184 n S x = some (pre S (leafT x)) := by
  unfold s184
  unfold leafT at hr ⊢
  by_cases k1 : x.kind = 1
  · have hk : 0 ≤ x.n ∧ x.n ≤ 999999999 := by rcases h.kind with h | h | h | h | h <;> omega
    rw [if_pos k1] at hr ⊢
    have := s212_ok (n := n) (by omega) (x := x.n.toNat) (by omega) hr
    rw [show (x.n.toNat : Int) = x.n by omega] at this
    rw [if_pos k1, bindT this]
  rw [if_neg k1] at hr ⊢
  rw [if_neg k1]
  by_cases k2 : x.kind = 2
  · rw [if_pos k2] at hr ⊢
    rw [if_pos k2]
    by_cases h1 : x.n = 1
    · rw [if_pos h1] at hr ⊢
      rw [if_pos h1, bindT (s213_ok (by decide) (by simp; omega) hr)]
    · rw [if_neg h1] at hr ⊢
      rw [if_neg h1, bindT (s213_ok (by decide) (by simp; omega) hr)]
  rw [if_neg k2] at hr ⊢
  rw [if_neg k2]
  by_cases k3 : x.kind = 3
  · rw [if_pos k3] at hr ⊢
    rw [if_pos k3, bindT (s214_ok (by omega) h.rb.1 hr)]
  rw [if_neg k3] at hr ⊢
  rw [if_neg k3]
  by_cases k4 : x.kind = 4
  · rw [if_pos k4] at hr ⊢
    have hr2 : Room S (([58] ++ rT x.r2).length + (rT x.r1).length) := hr.sub (by simp only [List.length_append]; omega)
    rw [if_pos k4, bindT (s214_ok (by omega) h.rb.2 (hr2.sub (by simp only [List.length_append]; omega)))]
    have e := pre_ok (S := S) (t := rT x.r2) (u := [58]) (o := fun S => s182 S 58) (hr2.sub (by omega)) (fun S' h => s182_i h 58 58 rfl)
    rw [bindT e]
    have e2 := pre_ok (S := S) (t := [58] ++ rT x.r2) (u := rT x.r1) (o := fun S => s214 n S x.r1) hr (fun S' h' => s214_ok (by omega) h.rb.1 h')
    rw [bindT e2]
  · rw [if_neg k4] at hr ⊢
    rw [if_neg k4, bindT (s213_ok (by decide) (by simp; omega) hr)]
theorem Leaf.show_ {n f : Nat} {ns : List NodeT} {v : Nat} {x : NodeT} (hn : 100 ≤ n) (h : Leaf x) (hx : ns[v]? = some x) (z : Int) (hf : 1 ≤ f) : (rc151 n f).1 ns ns.length (v : Int) z = some (bq (decide (s190 x < z)) (leafT x)) := by
  obtain ⟨f, rfl⟩ : ∃ k, f = k + 1 := ⟨f - 1, by omega⟩
  have hv := get_lt hx
  have hlen := h.len
  have e : (rc151 n (f + 1)).1 = s151_b n (rc151 n f).1 (rc151 n f).2 := by rw [rc151]
  rw [e]
  unfold s151_b
  rw [bindT (getT (x := x) (by omega) (by omega) (by rw [Int.toNat_natCast]; exact hx))]
  rw [← k151_0_ok (by omega)]
  unfold leafT
  by_cases k1 : x.kind = 1
  · have hk : 0 ≤ x.n ∧ x.n ≤ 999999999 := by rcases h.kind with h | h | h | h | h <;> omega
    have := s191_ok (n := n) (by omega) (x := x.n.toNat) (by omega)
    rw [show (x.n.toNat : Int) = x.n by omega] at this
    rw [if_pos k1, if_pos k1, bindT this]
  rw [if_neg k1, if_neg k1]
  by_cases k2 : x.kind = 2
  · rw [if_pos k2, if_pos k2]
    split <;> rfl
  rw [if_neg k2, if_neg k2]
  by_cases k3 : x.kind = 3
  · rw [if_pos k3, if_pos k3, bindT (s192_ok (by omega) h.rb.1)]
  rw [if_neg k3, if_neg k3]
  have h1 := rT_len h.rb.1
  have h2 := rT_len h.rb.2
  by_cases k4 : x.kind = 4
  · rw [if_pos k4, if_pos k4, bindT (s192_ok (by omega) h.rb.1), bindT (s192_ok (by omega) h.rb.2), ckF (by simp only [List.length_singleton]; omega), ckF (by simp only [List.length_append, List.length_singleton]; omega), List.append_assoc]
  · rw [if_neg k4, if_neg k4, if_pos (by rcases h.kind with h | h | h | h | h <;> omega)]
/-- A node's text, on both sides. -/
def Text (n : Nat) (ns : List NodeT) (k : Option Int) (lo v : Nat) : Prop :=
  ∃ (x : NodeT) (t : List UInt8), ns[v]? = some x ∧ (0 < t.length ∧ t.length + (if s190 x = 5 then 0 else 2) ≤ 12 * (v + 1 - lo)) ∧ Fill n ns lo v (s190 x = 5) t ∧
    (k = none → ∀ (f : Nat) (z : Int), v < f → (rc151 n f).1 ns ns.length (v : Int) z = some (bq (decide (s190 x < z)) t)) ∧
    (∀ q, k = some q → s190 x = 5 ∧ ∀ f, v < f → (rc151 n f).2 ns ns.length (v : Int) = some t)
theorem leaf_text {n : Nat} {ns : List NodeT} {v : Nat} {x : NodeT} (hn : 100 ≤ n) (hns : ns.length ≤ 24) (h : Leaf x) (hx : ns[v]? = some x) : Text n ns none v v := by
  have hk : x.kind ≠ 6 ∧ x.kind ≠ 7 ∧ x.kind ≠ 8 ∧ x.kind ≠ 9 := by rcases h.kind with h | h | h | h | h <;> omega
  have h5 : s190 x = 5 := by unfold s190; rw [if_neg hk.1, if_neg hk.2.1]
  have hl := h.len
  exact ⟨x, leafT x, hx, ⟨Leaf.pos x, by rw [if_pos h5]; omega⟩, fill_leaf hns hx hk (fun S hr => h.fill hn S hr), fun _ f z hf => h.show_ hn hx z (by omega), fun q hq => by cases hq⟩
theorem bq_le {x : NodeT} {z : Int} {t : List UInt8} (hz : z ≤ 5) {k : Nat} (h : t.length + (if s190 x = 5 then 0 else 2) ≤ k) : (bq (decide (s190 x < z)) t).length ≤ k := by
  have := bq_len (decide (s190 x < z)) t
  by_cases h5 : s190 x = 5
  · rw [if_pos h5] at h
    have : decide (s190 x < z) = false := decide_eq_false (by omega)
    rw [this]
    exact h
  · rw [if_neg h5] at h
    omega
theorem Lw.text {n : Nat} {ns : List NodeT} (hn : 100 ≤ n) (hb : Bd ns) {k : Option Int} {r : Bool} {lo v : Nat} (h : Lw ns k r lo v) : Text n ns k lo v := by
  have hns := hb.1
  have rb : ∀ {v : Nat} {x : NodeT}, ns[v]? = some x → RB x := fun hx => hb.2 _ (List.mem_of_getElem? hx)
  induction h using Lw.ind with
  | num h1 h2 h3 h4 h5 => exact leaf_text hn hns ⟨.inl ⟨h3, h4, h5⟩, rb h1⟩ h1
  | tru h1 h2 h3 h4 h5 => exact leaf_text hn hns ⟨.inr (.inl h3), rb h1⟩ h1
  | ref h1 h2 h3 => exact leaf_text hn hns ⟨.inr (.inr (.inl h3)), rb h1⟩ h1
  | err h1 h2 h3 => exact leaf_text hn hns ⟨.inr (.inr (.inr (.inr h3))), rb h1⟩ h1
  | rng h1 h2 h3 => exact leaf_text hn hns ⟨.inr (.inr (.inr (.inl h3))), rb h1⟩ h1
  | @neg r v lo x h1 h2 h3 h4 l ih =>
    obtain ⟨y, t, g1, ⟨g0, g2⟩, g3, g4, _⟩ := ih
    have hle := l.le
    have h4p : s190 x = 4 := by unfold s190; rw [if_pos h3]
    have hbl := bq_le (x := y) (z := 4) (by decide) g2
    refine ⟨x, _, h1, ?_, fill_neg hn hns h1 h3 h4 g1 hle.1 g3, fun _ f z hf => ?_, fun q hq => by cases hq⟩
    · rw [if_neg (by omega), List.length_append, List.length_singleton]
      exact ⟨by omega, by omega⟩
    · obtain ⟨f, rfl⟩ : ∃ k, f = k + 1 := ⟨f - 1, by omega⟩
      have e : (rc151 n (f + 1)).1 = s151_b n (rc151 n f).1 (rc151 n f).2 := by rw [rc151]
      have hv := get_lt h1
      rw [e]
      unfold s151_b
      rw [bindT (getT (x := x) (by omega) (by omega) (by rw [Int.toNat_natCast]; exact h1)), if_neg (by omega), if_neg (by omega), if_neg (by omega), if_neg (by omega), if_neg (by omega), if_pos h3, h4, bindT (g4 rfl f 4 (by omega)), ckF (by simp only [List.length_singleton]; omega)]
      exact k151_0_ok (by simp only [List.length_append, List.length_singleton]; omega)
  | @bin r v lo a x h1 h2 h3 h4 h5 h6 h7 l1 l2 ih1 ih2 =>
    obtain ⟨y, t, g1, ⟨g0, g2⟩, g3, g4, _⟩ := ih1
    obtain ⟨y2, u, j1, ⟨j0, j2⟩, j3, j4, _⟩ := ih2
    have hle := l1.le
    have hle2 := l2.le
    have hp := s169_bd x.op
    have hpx : s190 x = s169 x.op := by unfold s190; rw [if_neg (by omega), if_pos h3]; rfl
    have hz : zA x ≤ 4 := by unfold zA; split <;> omega
    have hbl := bq_le (x := y) (z := s169 x.op + 1) (by omega) g2
    have hbu := bq_le (x := y2) (z := zA x) (by omega) j2
    have h193 := s193_len x.op
    refine ⟨x, _, h1, ?_, fill_bin hn hns h1 h3 ⟨h4, h5⟩ h6 h7 g1 j1 hle2.1 (by omega) g3 j3, fun _ f z hf => ?_, fun q hq => by cases hq⟩
    · rw [if_neg (by omega), List.length_append, List.length_append]
      exact ⟨by omega, by omega⟩
    · obtain ⟨f, rfl⟩ : ∃ k, f = k + 1 := ⟨f - 1, by omega⟩
      have e : (rc151 n (f + 1)).1 = s151_b n (rc151 n f).1 (rc151 n f).2 := by rw [rc151]
      have hv := get_lt h1
      have k1 : ∀ q : Int, q = zA x → k151_1 (rc151 n f).1 ns ns.length z x q = some (bq (decide (s190 x < z)) (bq (decide (s190 y2 < zA x)) u ++ (s193 x.op ++ bq (decide (s190 y < s169 x.op + 1)) t))) := by
        intro q hq
        subst hq
        unfold k151_1
        rw [h7, bindT (j4 rfl f _ (by omega)), ckF (by constructor <;> omega), h6, hpx, bindT (g4 rfl f _ (by omega)), ckF (by omega), ckF (by simp only [List.length_append]; omega), k151_0_ok (by simp only [List.length_append]; omega), List.append_assoc, hpx]
      rw [e]
      unfold s151_b
      rw [bindT (getT (x := x) (by omega) (by omega) (by rw [Int.toNat_natCast]; exact h1)), if_neg (by omega), if_neg (by omega), if_neg (by omega), if_neg (by omega), if_neg (by omega), if_neg (by omega), if_pos h3]
      by_cases hp1 : s190 x = 1
      · rw [if_pos hp1]
        exact k1 2 (by unfold zA; rw [if_pos (by omega)])
      · rw [if_neg hp1]
        exact k1 _ (by unfold zA; rw [if_neg (by omega)]; exact hpx)
  | @call r v lo x h1 h2 h3 h4 h5 l1 ih =>
    obtain ⟨y, t, g1, ⟨g0, g2⟩, g3, _, g4⟩ := ih
    have hle := l1.le
    have h5x : s190 x = 5 := by unfold s190; rw [if_neg (by omega), if_neg (by omega)]
    have h195 := s195_len x.op
    obtain ⟨y5, g5⟩ := g4 _ rfl
    rw [if_pos y5] at g2
    refine ⟨x, _, h1, ?_, fill_call hn hns h1 h3 h5 g1 hle.1 g3, fun _ f z hf => ?_, fun q hq => by cases hq⟩
    · rw [if_pos h5x]
      simp only [List.length_append, List.length_singleton]
      exact ⟨by omega, by omega⟩
    · obtain ⟨f, rfl⟩ : ∃ k, f = k + 1 := ⟨f - 1, by omega⟩
      have e : (rc151 n (f + 1)).1 = s151_b n (rc151 n f).1 (rc151 n f).2 := by rw [rc151]
      have hv := get_lt h1
      rw [e]
      unfold s151_b
      rw [bindT (getT (x := x) (by omega) (by omega) (by rw [Int.toNat_natCast]; exact h1)), if_neg (by omega), if_neg (by omega), if_neg (by omega), if_neg (by omega), if_neg (by omega), if_neg (by omega), if_neg (by omega), if_pos h3, h5, bindT (g5 f (by omega))]
      rw [ckF (by simp only [List.length_singleton]; omega), ckF (by simp only [List.length_append, List.length_singleton]; omega), ckF (by simp only [List.length_append, List.length_singleton]; omega), k151_0_ok (by simp only [List.length_append, List.length_singleton]; omega)]
      simp only [List.append_assoc]
  | @one r v lo x h1 h2 h3 h4 h5 l1 ih =>
    obtain ⟨y, t, g1, ⟨g0, g2⟩, g3, g4, _⟩ := ih
    have hle := l1.le
    have h5x : s190 x = 5 := by unfold s190; rw [if_neg (by omega), if_neg (by omega)]
    have hd : decide (s190 y < 1) = false := decide_eq_false (by have := s190_bd y; omega)
    refine ⟨x, _, h1, ?_, fill_arg1 hn hns h1 h3 h4 h5 g1 hle.1 g3, (fun hk => by cases hk), fun q hq => ⟨h5x, fun f hf => ?_⟩⟩
    · rw [if_pos h5x]
      exact ⟨by omega, by omega⟩
    · obtain ⟨f, rfl⟩ : ∃ k, f = k + 1 := ⟨f - 1, by omega⟩
      have e : (rc151 n (f + 1)).2 = s194_b n (rc151 n f).1 (rc151 n f).2 := by rw [rc151]
      have hv := get_lt h1
      rw [e]
      unfold s194_b
      have hg := g4 rfl f 1 (by omega)
      rw [hd] at hg
      rw [bindT (getT (x := x) (by omega) (by omega) (by rw [Int.toNat_natCast]; exact h1)), h4, bindT hg, if_pos (by omega)]
      rfl
  | @more r v lo a q x h1 h2 h3 h4 h5 h6 l1 l2 ih1 ih2 =>
    obtain ⟨y, t, g1, ⟨g0, g2⟩, g3, g4, _⟩ := ih1
    obtain ⟨y2, u, j1, ⟨j0, j2⟩, j3, _, j4⟩ := ih2
    have hle := l1.le
    have hle2 := l2.le
    have h5x : s190 x = 5 := by unfold s190; rw [if_neg (by omega), if_neg (by omega)]
    have hd : decide (s190 y < 1) = false := decide_eq_false (by have := s190_bd y; omega)
    obtain ⟨y5, j5⟩ := j4 _ rfl
    refine ⟨x, _, h1, ?_, fill_more hn hns h1 h3 h5 h6 g1 j1 hle2.1 (by omega) g3 j3, (fun hk => by cases hk), fun q hq => ⟨h5x, fun f hf => ?_⟩⟩
    · rw [if_pos h5x]
      simp only [List.length_append, List.length_singleton]
      exact ⟨by omega, by omega⟩
    · obtain ⟨f, rfl⟩ : ∃ k, f = k + 1 := ⟨f - 1, by omega⟩
      have e : (rc151 n (f + 1)).2 = s194_b n (rc151 n f).1 (rc151 n f).2 := by rw [rc151]
      have hv := get_lt h1
      rw [e]
      unfold s194_b
      have hg := g4 rfl f 1 (by omega)
      rw [hd] at hg
      have hg : (rc151 n f).1 ns ns.length (v : Int) 1 = some t := hg
      rw [bindT (getT (x := x) (by omega) (by omega) (by rw [Int.toNat_natCast]; exact h1)), h5, bindT hg, if_neg (by omega), h6, bindT (j5 f (by omega)), ckF (by simp only [List.length_singleton]; omega), ckF (by simp only [List.length_append, List.length_singleton]; omega), List.append_assoc]
end Go.Proofs.Qxb6500272aGreat
