/-
  Plain laws, the parser: lawful trees; the descent's answer is one.
-/
import Derived.Test.Qxb6500272aGreatL6
namespace Go.Proofs.Qxb6500272aGreat
open Go
set_option linter.unusedVariables false
set_option linter.unusedSimpArgs false

theorem eqNode (x y : NodeT) : eqCells (encNode x) (encNode y) = true ↔ x = y := by
  obtain ⟨a1, a2, a3, a4, a5, ⟨b1, b2, b3, b4⟩, ⟨c1, c2, c3, c4⟩⟩ := x
  obtain ⟨d1, d2, d3, d4, d5, ⟨e1, e2, e3, e4⟩, ⟨f1, f2, f3, f4⟩⟩ := y
  simp [encNode, eqCells, I]
  intros
  simp only [and_assoc]
/-- Lw ns none r lo v: the nodes lo .. v are the tree at v, laid in order; with some n: the arguments, n of them. -/
structure LwC (ns : List NodeT) (P : Option Int → Bool → Nat → Nat → Prop) : Prop where
  num : ∀ {r : Bool} {v : Nat} {x : NodeT}, ns[v]? = some x → x = s210 x → x.kind = 1 → 0 ≤ x.n → x.n ≤ 999999999 → P none r v v
  tru : ∀ {r : Bool} {v : Nat} {x : NodeT}, ns[v]? = some x → x = s210 x → x.kind = 2 → 0 ≤ x.n → x.n ≤ 1 → P none r v v
  ref : ∀ {r : Bool} {v : Nat} {x : NodeT}, ns[v]? = some x → x = s210 x → x.kind = 3 → P none r v v
  err : ∀ {r : Bool} {v : Nat} {x : NodeT}, ns[v]? = some x → x = s210 x → x.kind = 5 → P none r v v
  rng : ∀ {v : Nat} {x : NodeT}, ns[v]? = some x → x = s210 x → x.kind = 4 → P none true v v
  neg : ∀ {r : Bool} {v lo : Nat} {x : NodeT}, ns[v + 1]? = some x → x = s210 x → x.kind = 6 → x.a = v → P none false lo v → P none r lo (v + 1)
  bin : ∀ {r : Bool} {v lo a : Nat} {x : NodeT}, ns[v + 1]? = some x → x = s210 x → x.kind = 7 → 1 ≤ x.op → x.op ≤ 10 → x.b = v → x.a = a → P none false (a + 1) v → P none false lo a → P none r lo (v + 1)
  call : ∀ {r : Bool} {v lo : Nat} {x : NodeT}, ns[v + 1]? = some x → x = s210 x → x.kind = 8 → s208 x.op x.n = true → x.a = v → P (some x.n) (s209 x.op) lo v → P none r lo (v + 1)
  one : ∀ {r : Bool} {v lo : Nat} {x : NodeT}, ns[v + 1]? = some x → x = s210 x → x.kind = 9 → x.a = v → x.b = -1 → P none r lo v → P (some 1) r lo (v + 1)
  more : ∀ {r : Bool} {v lo a : Nat} {n : Int} {x : NodeT}, ns[v + 1]? = some x → x = s210 x → x.kind = 9 → n ≠ 1 → x.a = v → x.b = a → P none r (a + 1) v → P (some (n - 1)) r lo a → P (some n) r lo (v + 1)
def Lw (ns : List NodeT) (k : Option Int) (r : Bool) (lo v : Nat) : Prop := ∀ P, LwC ns P → P k r lo v
theorem Lw.num {ns : List NodeT} {r : Bool} {v : Nat} {x : NodeT} (h1 : ns[v]? = some x) (h2 : x = s210 x) (h3 : x.kind = 1) (h4 : 0 ≤ x.n) (h5 : x.n ≤ 999999999) : Lw ns none r v v := fun P c => c.num h1 h2 h3 h4 h5
theorem Lw.tru {ns : List NodeT} {r : Bool} {v : Nat} {x : NodeT} (h1 : ns[v]? = some x) (h2 : x = s210 x) (h3 : x.kind = 2) (h4 : 0 ≤ x.n) (h5 : x.n ≤ 1) : Lw ns none r v v := fun P c => c.tru h1 h2 h3 h4 h5
theorem Lw.ref {ns : List NodeT} {r : Bool} {v : Nat} {x : NodeT} (h1 : ns[v]? = some x) (h2 : x = s210 x) (h3 : x.kind = 3) : Lw ns none r v v := fun P c => c.ref h1 h2 h3
theorem Lw.err {ns : List NodeT} {r : Bool} {v : Nat} {x : NodeT} (h1 : ns[v]? = some x) (h2 : x = s210 x) (h3 : x.kind = 5) : Lw ns none r v v := fun P c => c.err h1 h2 h3
theorem Lw.rng {ns : List NodeT} {v : Nat} {x : NodeT} (h1 : ns[v]? = some x) (h2 : x = s210 x) (h3 : x.kind = 4) : Lw ns none true v v := fun P c => c.rng h1 h2 h3
theorem Lw.neg {ns : List NodeT} {r : Bool} {v lo : Nat} {x : NodeT} (h1 : ns[v + 1]? = some x) (h2 : x = s210 x) (h3 : x.kind = 6) (h4 : x.a = v) (h5 : Lw ns none false lo v) : Lw ns none r lo (v + 1) := fun P c => c.neg h1 h2 h3 h4 (h5 P c)
theorem Lw.bin {ns : List NodeT} {r : Bool} {v lo a : Nat} {x : NodeT} (h1 : ns[v + 1]? = some x) (h2 : x = s210 x) (h3 : x.kind = 7) (h4 : 1 ≤ x.op) (h5 : x.op ≤ 10) (h6 : x.b = v) (h7 : x.a = a) (h8 : Lw ns none false (a + 1) v) (h9 : Lw ns none false lo a) : Lw ns none r lo (v + 1) := fun P c => c.bin h1 h2 h3 h4 h5 h6 h7 (h8 P c) (h9 P c)
theorem Lw.call {ns : List NodeT} {r : Bool} {v lo : Nat} {x : NodeT} (h1 : ns[v + 1]? = some x) (h2 : x = s210 x) (h3 : x.kind = 8) (h4 : s208 x.op x.n = true) (h5 : x.a = v) (h6 : Lw ns (some x.n) (s209 x.op) lo v) : Lw ns none r lo (v + 1) := fun P c => c.call h1 h2 h3 h4 h5 (h6 P c)
theorem Lw.one {ns : List NodeT} {r : Bool} {v lo : Nat} {x : NodeT} (h1 : ns[v + 1]? = some x) (h2 : x = s210 x) (h3 : x.kind = 9) (h4 : x.a = v) (h5 : x.b = -1) (h6 : Lw ns none r lo v) : Lw ns (some 1) r lo (v + 1) := fun P c => c.one h1 h2 h3 h4 h5 (h6 P c)
theorem Lw.more {ns : List NodeT} {r : Bool} {v lo a : Nat} {n : Int} {x : NodeT} (h1 : ns[v + 1]? = some x) (h2 : x = s210 x) (h3 : x.kind = 9) (h4 : n ≠ 1) (h5 : x.a = v) (h6 : x.b = a) (h7 : Lw ns none r (a + 1) v) (h8 : Lw ns (some (n - 1)) r lo a) : Lw ns (some n) r lo (v + 1) := fun P c => c.more h1 h2 h3 h4 h5 h6 (h7 P c) (h8 P c)
theorem Lw.ind {ns : List NodeT} {motive : (k : Option Int) → (r : Bool) → (lo v : Nat) → Lw ns k r lo v → Prop}
    (num : ∀ {r : Bool} {v : Nat} {x : NodeT} (h1 : ns[v]? = some x) (h2 : x = s210 x) (h3 : x.kind = 1) (h4 : 0 ≤ x.n) (h5 : x.n ≤ 999999999) , motive none r v v (.num h1 h2 h3 h4 h5))
    (tru : ∀ {r : Bool} {v : Nat} {x : NodeT} (h1 : ns[v]? = some x) (h2 : x = s210 x) (h3 : x.kind = 2) (h4 : 0 ≤ x.n) (h5 : x.n ≤ 1) , motive none r v v (.tru h1 h2 h3 h4 h5))
    (ref : ∀ {r : Bool} {v : Nat} {x : NodeT} (h1 : ns[v]? = some x) (h2 : x = s210 x) (h3 : x.kind = 3) , motive none r v v (.ref h1 h2 h3))
    (err : ∀ {r : Bool} {v : Nat} {x : NodeT} (h1 : ns[v]? = some x) (h2 : x = s210 x) (h3 : x.kind = 5) , motive none r v v (.err h1 h2 h3))
    (rng : ∀ {v : Nat} {x : NodeT} (h1 : ns[v]? = some x) (h2 : x = s210 x) (h3 : x.kind = 4) , motive none true v v (.rng h1 h2 h3))
    (neg : ∀ {r : Bool} {v lo : Nat} {x : NodeT} (h1 : ns[v + 1]? = some x) (h2 : x = s210 x) (h3 : x.kind = 6) (h4 : x.a = v) (h5 : Lw ns none false lo v) (g5 : motive none false lo v h5), motive none r lo (v + 1) (.neg h1 h2 h3 h4 h5))
    (bin : ∀ {r : Bool} {v lo a : Nat} {x : NodeT} (h1 : ns[v + 1]? = some x) (h2 : x = s210 x) (h3 : x.kind = 7) (h4 : 1 ≤ x.op) (h5 : x.op ≤ 10) (h6 : x.b = v) (h7 : x.a = a) (h8 : Lw ns none false (a + 1) v) (h9 : Lw ns none false lo a) (g8 : motive none false (a + 1) v h8) (g9 : motive none false lo a h9), motive none r lo (v + 1) (.bin h1 h2 h3 h4 h5 h6 h7 h8 h9))
    (call : ∀ {r : Bool} {v lo : Nat} {x : NodeT} (h1 : ns[v + 1]? = some x) (h2 : x = s210 x) (h3 : x.kind = 8) (h4 : s208 x.op x.n = true) (h5 : x.a = v) (h6 : Lw ns (some x.n) (s209 x.op) lo v) (g6 : motive (some x.n) (s209 x.op) lo v h6), motive none r lo (v + 1) (.call h1 h2 h3 h4 h5 h6))
    (one : ∀ {r : Bool} {v lo : Nat} {x : NodeT} (h1 : ns[v + 1]? = some x) (h2 : x = s210 x) (h3 : x.kind = 9) (h4 : x.a = v) (h5 : x.b = -1) (h6 : Lw ns none r lo v) (g6 : motive none r lo v h6), motive (some 1) r lo (v + 1) (.one h1 h2 h3 h4 h5 h6))
    (more : ∀ {r : Bool} {v lo a : Nat} {n : Int} {x : NodeT} (h1 : ns[v + 1]? = some x) (h2 : x = s210 x) (h3 : x.kind = 9) (h4 : n ≠ 1) (h5 : x.a = v) (h6 : x.b = a) (h7 : Lw ns none r (a + 1) v) (h8 : Lw ns (some (n - 1)) r lo a) (g7 : motive none r (a + 1) v h7) (g8 : motive (some (n - 1)) r lo a h8), motive (some n) r lo (v + 1) (.more h1 h2 h3 h4 h5 h6 h7 h8))
    {k : Option Int} {r : Bool} {lo v : Nat} (h : Lw ns k r lo v) : motive k r lo v h := by
  obtain ⟨h', g⟩ := h (fun k r lo v => ∃ h : Lw ns k r lo v, motive k r lo v h) ⟨fun h1 h2 h3 h4 h5 => ⟨.num h1 h2 h3 h4 h5, num h1 h2 h3 h4 h5 ⟩,
    fun h1 h2 h3 h4 h5 => ⟨.tru h1 h2 h3 h4 h5, tru h1 h2 h3 h4 h5 ⟩,
    fun h1 h2 h3 => ⟨.ref h1 h2 h3, ref h1 h2 h3 ⟩,
    fun h1 h2 h3 => ⟨.err h1 h2 h3, err h1 h2 h3 ⟩,
    fun h1 h2 h3 => ⟨.rng h1 h2 h3, rng h1 h2 h3 ⟩,
    fun h1 h2 h3 h4 ⟨h5, g5⟩ => ⟨.neg h1 h2 h3 h4 h5, neg h1 h2 h3 h4 h5 g5⟩,
    fun h1 h2 h3 h4 h5 h6 h7 ⟨h8, g8⟩ ⟨h9, g9⟩ => ⟨.bin h1 h2 h3 h4 h5 h6 h7 h8 h9, bin h1 h2 h3 h4 h5 h6 h7 h8 h9 g8 g9⟩,
    fun h1 h2 h3 h4 h5 ⟨h6, g6⟩ => ⟨.call h1 h2 h3 h4 h5 h6, call h1 h2 h3 h4 h5 h6 g6⟩,
    fun h1 h2 h3 h4 h5 ⟨h6, g6⟩ => ⟨.one h1 h2 h3 h4 h5 h6, one h1 h2 h3 h4 h5 h6 g6⟩,
    fun h1 h2 h3 h4 h5 h6 ⟨h7, g7⟩ ⟨h8, g8⟩ => ⟨.more h1 h2 h3 h4 h5 h6 h7 h8, more h1 h2 h3 h4 h5 h6 h7 h8 g7 g8⟩⟩
  exact g
theorem Lw.cn {ns : List NodeT} {motive : (r : Bool) → (lo v : Nat) → Lw ns none r lo v → Prop}
    (num : ∀ {r : Bool} {v : Nat} {x : NodeT} (h1 : ns[v]? = some x) (h2 : x = s210 x) (h3 : x.kind = 1) (h4 : 0 ≤ x.n) (h5 : x.n ≤ 999999999), motive r v v (.num h1 h2 h3 h4 h5))
    (tru : ∀ {r : Bool} {v : Nat} {x : NodeT} (h1 : ns[v]? = some x) (h2 : x = s210 x) (h3 : x.kind = 2) (h4 : 0 ≤ x.n) (h5 : x.n ≤ 1), motive r v v (.tru h1 h2 h3 h4 h5))
    (ref : ∀ {r : Bool} {v : Nat} {x : NodeT} (h1 : ns[v]? = some x) (h2 : x = s210 x) (h3 : x.kind = 3), motive r v v (.ref h1 h2 h3))
    (err : ∀ {r : Bool} {v : Nat} {x : NodeT} (h1 : ns[v]? = some x) (h2 : x = s210 x) (h3 : x.kind = 5), motive r v v (.err h1 h2 h3))
    (rng : ∀ {v : Nat} {x : NodeT} (h1 : ns[v]? = some x) (h2 : x = s210 x) (h3 : x.kind = 4), motive true v v (.rng h1 h2 h3))
    (neg : ∀ {r : Bool} {v lo : Nat} {x : NodeT} (h1 : ns[v + 1]? = some x) (h2 : x = s210 x) (h3 : x.kind = 6) (h4 : x.a = v) (h5 : Lw ns none false lo v), motive r lo (v + 1) (.neg h1 h2 h3 h4 h5))
    (bin : ∀ {r : Bool} {v lo a : Nat} {x : NodeT} (h1 : ns[v + 1]? = some x) (h2 : x = s210 x) (h3 : x.kind = 7) (h4 : 1 ≤ x.op) (h5 : x.op ≤ 10) (h6 : x.b = v) (h7 : x.a = a) (h8 : Lw ns none false (a + 1) v) (h9 : Lw ns none false lo a), motive r lo (v + 1) (.bin h1 h2 h3 h4 h5 h6 h7 h8 h9))
    (call : ∀ {r : Bool} {v lo : Nat} {x : NodeT} (h1 : ns[v + 1]? = some x) (h2 : x = s210 x) (h3 : x.kind = 8) (h4 : s208 x.op x.n = true) (h5 : x.a = v) (h6 : Lw ns (some x.n) (s209 x.op) lo v), motive r lo (v + 1) (.call h1 h2 h3 h4 h5 h6))
    {r : Bool} {lo v : Nat} (h : Lw ns none r lo v) : motive r lo v h := by
  have : ∀ (k : Option Int) (r : Bool) (lo v : Nat), Lw ns k r lo v → k = none → ∀ h : Lw ns none r lo v, motive r lo v h := by
    intro k r lo v h
    induction h using Lw.ind with
    | num h1 h2 h3 h4 h5  => intro _ _; exact num h1 h2 h3 h4 h5
    | tru h1 h2 h3 h4 h5  => intro _ _; exact tru h1 h2 h3 h4 h5
    | ref h1 h2 h3  => intro _ _; exact ref h1 h2 h3
    | err h1 h2 h3  => intro _ _; exact err h1 h2 h3
    | rng h1 h2 h3  => intro _ _; exact rng h1 h2 h3
    | neg h1 h2 h3 h4 h5 g5 => intro _ _; exact neg h1 h2 h3 h4 h5
    | bin h1 h2 h3 h4 h5 h6 h7 h8 h9 g8 g9 => intro _ _; exact bin h1 h2 h3 h4 h5 h6 h7 h8 h9
    | call h1 h2 h3 h4 h5 h6 g6 => intro _ _; exact call h1 h2 h3 h4 h5 h6
    | one h1 h2 h3 h4 h5 h6 g6 => intro e; cases e
    | more h1 h2 h3 h4 h5 h6 h7 h8 g7 g8 => intro e; cases e
  exact this none r lo v h rfl h
theorem Lw.mono {ns ms : List NodeT} {k : Option Int} {r : Bool} {lo v : Nat} (h : Lw ns k r lo v) : Lw (ns ++ ms) k r lo v := by
  have get : ∀ {v : Nat} {x : NodeT}, ns[v]? = some x → (ns ++ ms)[v]? = some x := by
    intro v x h
    have : v < ns.length := by
      rcases Nat.lt_or_ge v ns.length with h2 | h2
      · exact h2
      · rw [List.getElem?_eq_none h2] at h; cases h
    rw [List.getElem?_append_left this]; exact h
  induction h using Lw.ind with
  | num h1 h2 h3 h4 h5 => exact .num (get h1) h2 h3 h4 h5
  | tru h1 h2 h3 h4 h5 => exact .tru (get h1) h2 h3 h4 h5
  | ref h1 h2 h3 => exact .ref (get h1) h2 h3
  | err h1 h2 h3 => exact .err (get h1) h2 h3
  | rng h1 h2 h3 => exact .rng (get h1) h2 h3
  | neg h1 h2 h3 h4 _ ih => exact .neg (get h1) h2 h3 h4 ih
  | bin h1 h2 h3 h4 h5 h6 h7 _ _ ih1 ih2 => exact .bin (get h1) h2 h3 h4 h5 h6 h7 ih1 ih2
  | call h1 h2 h3 h4 h5 _ ih => exact .call (get h1) h2 h3 h4 h5 ih
  | one h1 h2 h3 h4 h5 _ ih => exact .one (get h1) h2 h3 h4 h5 ih
  | more h1 h2 h3 h4 h5 h6 _ _ ih1 ih2 => exact .more (get h1) h2 h3 h4 h5 h6 ih1 ih2
theorem Lw.le {ns : List NodeT} {k : Option Int} {r : Bool} {lo v : Nat} (h : Lw ns k r lo v) : lo ≤ v ∧ v < ns.length := by
  have get : ∀ {v : Nat} {x : NodeT}, ns[v]? = some x → v < ns.length := by
    intro v x h
    rcases Nat.lt_or_ge v ns.length with h2 | h2
    · exact h2
    · rw [List.getElem?_eq_none h2] at h; cases h
  induction h using Lw.ind with
  | num h1 | tru h1 | ref h1 | err h1 | rng h1 => exact ⟨Nat.le_refl _, get h1⟩
  | neg h1 h2 h3 h4 _ ih => exact ⟨by omega, get h1⟩
  | bin h1 h2 h3 h4 h5 h6 h7 _ _ ih1 ih2 => exact ⟨by omega, get h1⟩
  | call h1 h2 h3 h4 h5 _ ih => exact ⟨by omega, get h1⟩
  | one h1 h2 h3 h4 h5 _ ih => exact ⟨by omega, get h1⟩
  | more h1 h2 h3 h4 h5 h6 _ _ ih1 ih2 => exact ⟨by omega, get h1⟩
theorem Lw.noR {ns : List NodeT} {r : Bool} {lo v : Nat} (h : Lw ns none r lo v) (hr : isR ns v = false) (r' : Bool) : Lw ns none r' lo v := by
  cases h using Lw.cn with
  | num h1 h2 h3 h4 h5 => exact .num h1 h2 h3 h4 h5
  | tru h1 h2 h3 h4 h5 => exact .tru h1 h2 h3 h4 h5
  | ref h1 h2 h3 => exact .ref h1 h2 h3
  | err h1 h2 h3 => exact .err h1 h2 h3
  | rng h1 h2 h3 =>
    exfalso
    have hl := (Lw.rng h1 h2 h3).le
    have : isR ns lo = true := isR_iff.2 ⟨by omega, by omega, by rw [Int.toNat_natCast, List.getD_eq_getElem?_getD, h1]; exact h3⟩
    rw [this] at hr
    cases hr
  | neg h1 h2 h3 h4 h => exact .neg h1 h2 h3 h4 h
  | bin h1 h2 h3 h4 h5 h6 h7 h8 h9 => exact .bin h1 h2 h3 h4 h5 h6 h7 h8 h9
  | call h1 h2 h3 h4 h5 h => exact .call h1 h2 h3 h4 h5 h
theorem Lw.ofF {ns : List NodeT} {lo v : Nat} (h : Lw ns none false lo v) (r' : Bool) : Lw ns none r' lo v := by
  cases h using Lw.cn with
  | num h1 h2 h3 h4 h5 => exact .num h1 h2 h3 h4 h5
  | tru h1 h2 h3 h4 h5 => exact .tru h1 h2 h3 h4 h5
  | ref h1 h2 h3 => exact .ref h1 h2 h3
  | err h1 h2 h3 => exact .err h1 h2 h3
  | neg h1 h2 h3 h4 h => exact .neg h1 h2 h3 h4 h
  | bin h1 h2 h3 h4 h5 h6 h7 h8 h9 => exact .bin h1 h2 h3 h4 h5 h6 h7 h8 h9
  | call h1 h2 h3 h4 h5 h => exact .call h1 h2 h3 h4 h5 h

/-! ### The descent's answer -/
def RB1 (q : RefT) : Prop := 0 ≤ q.col ∧ q.col ≤ 25 ∧ 0 ≤ q.row ∧ q.row ≤ 98
def RB (x : NodeT) : Prop := RB1 x.r1 ∧ RB1 x.r2
def Bd (ns : List NodeT) : Prop := ns.length ≤ 24 ∧ ∀ x ∈ ns, RB x
def Pk (t : TokT) : Prop := (t.kind = 2 → (t.op = 1 ∧ 0 ≤ t.n ∧ t.n ≤ 999999999) ∨ (t.op = 2 ∧ 0 ≤ t.n ∧ t.n ≤ 1) ∨ (t.op = 5 ∧ t.n = 0)) ∧ RB1 t.r
theorem Pk.ite {c : Prop} [Decidable c] {a b : TokT} (h1 : c → Pk a) (h2 : ¬ c → Pk b) : Pk (if c then a else b) := by
  by_cases h : c
  · rw [if_pos h]; exact h1 h
  · rw [if_neg h]; exact h2 h
theorem RB1_0 : RB1 dRef := by unfold RB1 dRef; decide
theorem sgn_pk (j : Nat) (c d : Int) : Pk (sgn j c d) := by
  unfold sgn
  repeat' refine Pk.ite (fun h => ?_) (fun _ => ?_)
  all_goals first
    | exact ⟨fun h9 => by have h9 : c = 2 := h9; omega, RB1_0⟩
    | exact ⟨by simp, RB1_0⟩
theorem aRun_inv : ∀ (w : List UInt8) (q : Int) (r : RefT), aInv q r → 0 ≤ q → aInv (aRun q r w).1 (aRun q r w).2 ∧ 0 ≤ (aRun q r w).1 := by
  intro w
  induction w with
  | nil => intro q r h h0; exact ⟨h, h0⟩
  | cons c w ih =>
    intro q r h h0
    obtain ⟨h1, h2⟩ := aStep_inv (c := (c.toNat : Int)) h h0
    exact ih _ _ h1 h2
theorem refOf_bd {w : List UInt8} {r : RefT} (h : refOf w = some r) : RB1 r := by
  obtain ⟨h1, h2⟩ := aRun_inv w 0 dRef (by unfold aInv dRef; simp) (by omega)
  unfold refOf at h
  simp only at h
  by_cases hc : (aRun 0 dRef w).1 = 4 ∨ (aRun 0 dRef w).1 = 5
  · rw [if_pos hc] at h
    injection h with h
    subst h
    unfold aInv at h1
    unfold RB1
    simp only
    omega
  · rw [if_neg hc] at h
    cases h
theorem tok_pk (s : List UInt8) (i : Nat) : Pk (tok s i) := by
  unfold tok
  refine Pk.ite (fun hc => ?_) (fun _ => ⟨by simp, RB1_0⟩)
  unfold rawTok
  refine Pk.ite (fun hc => ?_) (fun _ => Pk.ite (fun hc => ?_) (fun _ => sgn_pk _ _ _))
  · unfold numTok
    refine Pk.ite (fun hc => ⟨by simp, RB1_0⟩) (fun _ => ⟨fun _ => .inl ⟨rfl, ?_⟩, RB1_0⟩)
    have := digRun_dg s (skip s i) (skip s i) 0 (Nat.le_refl _) (by unfold Dg; omega)
    unfold Dg at this
    exact ⟨this.1, this.2.1⟩
  · unfold wordTok
    simp only
    cases hr : refOf (wordAt s (Qxb6500272aGreat.skip s i) (wEnd s (Qxb6500272aGreat.skip s i))) with
    | some r => exact ⟨by simp, refOf_bd hr⟩
    | none =>
      simp only
      repeat' refine Pk.ite (fun h => ?_) (fun _ => ?_)
      all_goals exact ⟨by simp, RB1_0⟩
def Res (ns : List NodeT) (r : Bool) (lo : Nat) (x : DRes) : Prop :=
  ∀ v i ns', x = .ok (v, i, ns') → ∃ (w : Nat) (ms : List NodeT), v = (w : Int) ∧ ns' = ns ++ ms ∧ w + 1 = ns'.length ∧ Bd ns' ∧ Lw ns' none r lo w
theorem Res.err {ns : List NodeT} {r : Bool} {lo : Nat} {e : Int × Int} : Res ns r lo (.error e) := fun _ _ _ h => by cases h
theorem add_res {ns : List NodeT} {r : Bool} {lo i : Nat} {x : NodeT} (hb : Bd ns) (hx : RB x) (h : Lw (ns ++ [x]) none r lo ns.length) : Res ns r lo (addD ns i x) := by
  intro v i' ns' he
  unfold addD at he
  split at he
  · cases he
  · injection he with he
    injection he with h1 he
    injection he with h2 h3
    subst h3
    refine ⟨ns.length, [x], h1.symm, rfl, by simp, ⟨by simp; omega, ?_⟩, h⟩
    intro y hy
    rcases List.mem_append.1 hy with hy | hy
    · exact hb.2 y hy
    · rw [List.mem_singleton.1 hy]; exact hx
theorem app_get (ns : List NodeT) (x : NodeT) : (ns ++ [x])[ns.length]? = some x := by simp
theorem RB_0 (k o a b n : Int) : RB ⟨k, o, a, b, n, dRef, dRef⟩ := ⟨RB1_0, RB1_0⟩
theorem bin_res {nsa ns ms : List NodeT} {r : Bool} {lo wa wb i : Nat} {op : Int} (e : ns = nsa ++ ms) (hb : Bd ns) (ha : wa + 1 = nsa.length) (la : Lw nsa none false lo wa) (hw : wb + 1 = ns.length) (lb : Lw ns none false nsa.length wb) (h1 : 1 ≤ op) (h2 : op ≤ 10) :
    Res ns r lo (addD ns i (binN op (wa : Int) (wb : Int))) := by
  refine add_res hb (RB_0 ..) ?_
  have g := app_get ns (binN op (wa : Int) (wb : Int))
  rw [← hw] at g ⊢
  refine .bin g rfl rfl h1 h2 rfl rfl ?_ ?_
  · rw [ha]; exact lb.mono
  · rw [e] at hb ⊢
    have := (la.mono (ms := ms)).mono (ms := [binN op (wa : Int) (wb : Int)])
    exact this
theorem Res.pre {nsa ns ms : List NodeT} {r : Bool} {lo : Nat} {x : DRes} (e : ns = nsa ++ ms) (h : Res ns r lo x) : Res nsa r lo x := by
  intro v i ns' hx
  obtain ⟨w, ms', h1, h2, h3, h4, h5⟩ := h v i ns' hx
  exact ⟨w, ms ++ ms', h1, by rw [h2, e, List.append_assoc], h3, h4, h5⟩
structure DLall (s : List UInt8) (m : Nat) : Prop where
  expr : ∀ (r : Bool) (i : Nat) (ns : List NodeT) (x : DRes), Bd ns → D s m (.expr r) i ns = some x → Res ns r ns.length x
  chain2 : ∀ (r : Bool) (i : Nat) (ns : List NodeT) (x : DRes), Bd ns → D s m (.chain2 r) i ns = some x → Res ns r ns.length x
  loop2 : ∀ (r : Bool) (lo w i : Nat) (ns : List NodeT) (x : DRes), Bd ns → w + 1 = ns.length → Lw ns none r lo w → D s m (.loop2 (w : Int)) i ns = some x → Res ns r lo x
  chain3 : ∀ (r : Bool) (i : Nat) (ns : List NodeT) (x : DRes), Bd ns → D s m (.chain3 r) i ns = some x → Res ns r ns.length x
  loop3 : ∀ (r : Bool) (lo w i : Nat) (ns : List NodeT) (x : DRes), Bd ns → w + 1 = ns.length → Lw ns none r lo w → D s m (.loop3 (w : Int)) i ns = some x → Res ns r lo x
  unary : ∀ (r : Bool) (i : Nat) (ns : List NodeT) (x : DRes), Bd ns → D s m (.unary r) i ns = some x → Res ns r ns.length x
  atom : ∀ (r : Bool) (i : Nat) (ns : List NodeT) (x : DRes), Bd ns → D s m (.atom r) i ns = some x → Res ns r ns.length x
  args : ∀ (f p n l : Int) (lo i : Nat) (ns : List NodeT) (x : DRes), Bd ns → ((n = 0 ∧ l = -1 ∧ lo = ns.length) ∨ (∃ l0 : Nat, l = (l0 : Int) ∧ l0 + 1 = ns.length ∧ 1 ≤ n ∧ Lw ns (some n) (s209 f) lo l0)) → D s m (.args f p n l) i ns = some x → ∀ r, Res ns r lo x
section
variable {s : List UInt8} {m : Nat}
theorem dl_loop3 (A : DLall s m) (r : Bool) (lo w i : Nat) (ns : List NodeT) (x : DRes) (hb : Bd ns) (hw : w + 1 = ns.length) (h : Lw ns none r lo w) (d : D s (m + 1) (.loop3 (w : Int)) i ns = some x) : Res ns r lo x := by
  have d : (if (tok s i).kind = 1 then some (.error (2, (skip s i : Nat)))
      else if (tok s i).kind = 6 ∧ ((tok s i).n = 9 ∨ (tok s i).n = 10) then
        if isR ns (w : Int) = true then some (.error (3, (skip s i : Nat)))
        else bindD (D s m (.unary false) (tok s i).end_.toNat ns) fun b j ns => bindD (some (addD ns j (binN (tok s i).n (w : Int) b))) fun v k ns => D s m (.loop3 v) k ns
      else some (.ok ((w : Int), skip s i, ns))) = some x := d
  split at d
  · injection d with d; subst d; exact Res.err
  split at d
  · rename_i c3
    split at d
    · injection d with d; subst d; exact Res.err
    · rename_i hr
      rcases bindD_some d with ⟨e, p, d1, rfl⟩ | ⟨b, j, ns1, d1, d2⟩
      · exact Res.err
      · obtain ⟨wb, ms, rfl, h2, h3, h4, h5⟩ := A.unary _ _ _ _ hb d1 _ _ _ rfl
        have hbn := bin_res (r := r) (i := j) (op := (tok s i).n) h2 h4 hw (h.noR (by simpa using hr) false) h3 h5 (by omega) (by omega)
        rcases bindD_some d2 with ⟨e, p, d3, rfl⟩ | ⟨v, j2, ns2, d3, d4⟩
        · exact Res.err
        · injection d3 with d3
          obtain ⟨w2, ms2, rfl, g2, g3, g4, g5⟩ := hbn _ _ _ d3
          exact (A.loop3 r lo w2 _ _ _ g4 g3 g5 d4).pre (ms := ms ++ ms2) (by rw [g2, h2, List.append_assoc])
  · injection d with d
    subst d
    intro v i' ns' hx
    injection hx with hx
    injection hx with h1 hx
    injection hx with h2 h3
    subst h3
    exact ⟨w, [], h1.symm, by simp, hw, hb, h⟩
theorem dl_chain3 (A : DLall s m) (r : Bool) (i : Nat) (ns : List NodeT) (x : DRes) (hb : Bd ns) (d : D s (m + 1) (.chain3 r) i ns = some x) : Res ns r ns.length x := by
  rcases bindD_some (show bindD (D s m (.unary r) i ns) (fun a i ns => D s m (.loop3 a) i ns) = some x from d) with ⟨e, p, d1, rfl⟩ | ⟨b, j, ns1, d1, d2⟩
  · exact Res.err
  · obtain ⟨w, ms, rfl, h2, h3, h4, h5⟩ := A.unary _ _ _ _ hb d1 _ _ _ rfl
    exact (A.loop3 r _ w _ _ _ h4 h3 h5 d2).pre h2
theorem dl_loop2 (A : DLall s m) (r : Bool) (lo w i : Nat) (ns : List NodeT) (x : DRes) (hb : Bd ns) (hw : w + 1 = ns.length) (h : Lw ns none r lo w) (d : D s (m + 1) (.loop2 (w : Int)) i ns = some x) : Res ns r lo x := by
  have d : (if (tok s i).kind = 1 then some (.error (2, (skip s i : Nat)))
      else if (tok s i).kind = 6 ∧ ((tok s i).n = 7 ∨ (tok s i).n = 8) then
        if isR ns (w : Int) = true then some (.error (3, (skip s i : Nat)))
        else bindD (D s m (.chain3 false) (tok s i).end_.toNat ns) fun b j ns => bindD (some (addD ns j (binN (tok s i).n (w : Int) b))) fun v k ns => D s m (.loop2 v) k ns
      else some (.ok ((w : Int), skip s i, ns))) = some x := d
  split at d
  · injection d with d; subst d; exact Res.err
  split at d
  · rename_i c3
    split at d
    · injection d with d; subst d; exact Res.err
    · rename_i hr
      rcases bindD_some d with ⟨e, p, d1, rfl⟩ | ⟨b, j, ns1, d1, d2⟩
      · exact Res.err
      · obtain ⟨wb, ms, rfl, h2, h3, h4, h5⟩ := A.chain3 _ _ _ _ hb d1 _ _ _ rfl
        have hbn := bin_res (r := r) (i := j) (op := (tok s i).n) h2 h4 hw (h.noR (by simpa using hr) false) h3 h5 (by omega) (by omega)
        rcases bindD_some d2 with ⟨e, p, d3, rfl⟩ | ⟨v, j2, ns2, d3, d4⟩
        · exact Res.err
        · injection d3 with d3
          obtain ⟨w2, ms2, rfl, g2, g3, g4, g5⟩ := hbn _ _ _ d3
          exact (A.loop2 r lo w2 _ _ _ g4 g3 g5 d4).pre (ms := ms ++ ms2) (by rw [g2, h2, List.append_assoc])
  · injection d with d
    subst d
    intro v i' ns' hx
    injection hx with hx
    injection hx with h1 hx
    injection hx with h2 h3
    subst h3
    exact ⟨w, [], h1.symm, by simp, hw, hb, h⟩
theorem dl_chain2 (A : DLall s m) (r : Bool) (i : Nat) (ns : List NodeT) (x : DRes) (hb : Bd ns) (d : D s (m + 1) (.chain2 r) i ns = some x) : Res ns r ns.length x := by
  rcases bindD_some (show bindD (D s m (.chain3 r) i ns) (fun a i ns => D s m (.loop2 a) i ns) = some x from d) with ⟨e, p, d1, rfl⟩ | ⟨b, j, ns1, d1, d2⟩
  · exact Res.err
  · obtain ⟨w, ms, rfl, h2, h3, h4, h5⟩ := A.chain3 _ _ _ _ hb d1 _ _ _ rfl
    exact (A.loop2 r _ w _ _ _ h4 h3 h5 d2).pre h2
theorem dl_expr (A : DLall s m) (r : Bool) (i : Nat) (ns : List NodeT) (x : DRes) (hb : Bd ns) (d : D s (m + 1) (.expr r) i ns = some x) : Res ns r ns.length x := by
  have d : bindD (D s m (.chain2 r) i ns) (fun a i ns =>
      if (tok s i).kind = 6 ∧ 1 ≤ (tok s i).n ∧ (tok s i).n ≤ 6 then
        if isR ns a = true then some (.error (3, (skip s i : Nat)))
        else bindD (D s m (.chain2 false) (tok s i).end_.toNat ns) fun b j ns => some (addD ns j (binN (tok s i).n a b))
      else some (.ok (a, i, ns))) = some x := d
  rcases bindD_some d with ⟨e, p, d1, rfl⟩ | ⟨a, j, ns1, d1, d2⟩
  · exact Res.err
  · obtain ⟨w, ms, rfl, h2, h3, h4, h5⟩ := A.chain2 _ _ _ _ hb d1 _ _ _ rfl
    split at d2
    · rename_i c3
      split at d2
      · injection d2 with d2; subst d2; exact Res.err
      · rename_i hr
        rcases bindD_some d2 with ⟨e, p, d3, rfl⟩ | ⟨b, j2, ns2, d3, d4⟩
        · exact Res.err
        · obtain ⟨w2, ms2, rfl, g2, g3, g4, g5⟩ := A.chain2 _ _ _ _ h4 d3 _ _ _ rfl
          injection d4 with d4
          subst d4
          exact (bin_res (r := r) g2 g4 h3 (h5.noR (by simpa using hr) false) g3 g5 c3.2.1 (by omega)).pre (ms := ms ++ ms2) (by rw [g2, h2, List.append_assoc])
    · injection d2 with d2
      subst d2
      intro v i' ns' hx
      injection hx with hx
      injection hx with e1 hx
      injection hx with e2 e3
      subst e3
      exact ⟨w, ms, e1.symm, h2, h3, h4, h5⟩
theorem dl_unary (A : DLall s m) (r : Bool) (i : Nat) (ns : List NodeT) (x : DRes) (hb : Bd ns) (d : D s (m + 1) (.unary r) i ns = some x) : Res ns r ns.length x := by
  have d : (if (tok s i).kind = 1 then some (.error (2, (skip s i : Nat)))
      else if (tok s i).kind = 6 ∧ (tok s i).n = 8 then bindD (D s m (.unary false) (tok s i).end_.toNat ns) fun v j ns => some (addD ns j (negN v))
      else D s m (.atom r) (skip s i) ns) = some x := d
  split at d
  · injection d with d; subst d; exact Res.err
  split at d
  · rcases bindD_some d with ⟨e, p, d1, rfl⟩ | ⟨a, j, ns1, d1, d2⟩
    · exact Res.err
    · obtain ⟨w, ms, rfl, h2, h3, h4, h5⟩ := A.unary _ _ _ _ hb d1 _ _ _ rfl
      injection d2 with d2
      subst d2
      refine (add_res h4 (RB_0 ..) ?_).pre h2
      have g := app_get ns1 (negN (w : Int))
      rw [← h3] at g ⊢
      exact .neg g rfl rfl rfl h5.mono
  · exact A.atom _ _ _ _ hb d
theorem dl_atom (A : DLall s m) (r : Bool) (i : Nat) (ns : List NodeT) (x : DRes) (hb : Bd ns) (d : D s (m + 1) (.atom r) i ns = some x) : Res ns r ns.length x := by
  unfold D at d
  simp only at d
  have pk := tok_pk s i
  split at d
  · injection d with d; subst d; exact Res.err
  split at d
  · rename_i c2
    injection d with d
    subst d
    refine add_res hb (RB_0 ..) ?_
    have g := app_get ns (leafN (tok s i).op (tok s i).n)
    rcases pk.1 c2 with ⟨h1, h2, h3⟩ | ⟨h1, h2, h3⟩ | ⟨h1, h2⟩
    · rw [h1] at g ⊢; exact .num g rfl rfl h2 h3
    · rw [h1] at g ⊢; exact .tru g rfl rfl h2 h3
    · rw [h1, h2] at g ⊢; exact .err g rfl rfl
  split at d
  · injection d with d; subst d; exact Res.err
  split at d
  · split at d
    · injection d with d; subst d; exact Res.err
    split at d
    · split at d
      · injection d with d; subst d; exact Res.err
      split at d
      · split at d
        · rename_i hr
          injection d with d
          subst d
          refine add_res hb ⟨pk.2, (tok_pk s _).2⟩ ?_
          rw [hr]
          exact .rng (app_get ns _) rfl rfl
        · injection d with d; subst d; exact Res.err
      · injection d with d; subst d; exact Res.err
    · injection d with d
      subst d
      exact add_res hb ⟨pk.2, RB1_0⟩ (.ref (app_get ns _) rfl rfl)
  split at d
  · split at d
    · injection d with d; subst d; exact Res.err
    split at d
    · split at d
      · injection d with d; subst d; exact Res.err
      split at d
      · injection d with d; subst d; exact Res.err
      · exact A.args _ _ _ _ _ _ _ _ hb (.inl ⟨rfl, rfl, rfl⟩) d r
    · injection d with d; subst d; exact Res.err
  split at d
  · rcases bindD_some d with ⟨e, p, d1, rfl⟩ | ⟨a, j, ns1, d1, d2⟩
    · exact Res.err
    · obtain ⟨w, ms, rfl, h2, h3, h4, h5⟩ := A.expr _ _ _ _ hb d1 _ _ _ rfl
      split at d2
      · injection d2 with d2
        subst d2
        intro v i' ns' hx
        injection hx with hx
        injection hx with e1 hx
        injection hx with e2 e3
        subst e3
        exact ⟨w, ms, e1.symm, h2, h3, h4, h5.ofF r⟩
      · injection d2 with d2; subst d2; exact Res.err
  · injection d with d; subst d; exact Res.err
theorem dl_args (A : DLall s m) (f p n l : Int) (lo i : Nat) (ns : List NodeT) (x : DRes) (hb : Bd ns) (hl : (n = 0 ∧ l = -1 ∧ lo = ns.length) ∨ (∃ l0 : Nat, l = (l0 : Int) ∧ l0 + 1 = ns.length ∧ 1 ≤ n ∧ Lw ns (some n) (s209 f) lo l0)) (d : D s (m + 1) (.args f p n l) i ns = some x) (r : Bool) : Res ns r lo x := by
  have d : bindD (D s m (.expr (s209 f)) i ns) (fun a j ns => bindD (some (addD ns j (argN a l))) fun l' j ns =>
      if (tok s j).kind = 44 then D s m (.args f p (n + 1) l') (tok s j).end_.toNat ns
      else if (tok s j).kind = 41 then
        if s208 f (n + 1) = true then some (addD ns (tok s j).end_.toNat (callN f l' (n + 1))) else some (.error (6, p))
      else some (.error (3, (skip s j : Nat)))) = some x := d
  rcases bindD_some d with ⟨e, p, d1, rfl⟩ | ⟨a, j, ns1, d1, d2⟩
  · exact Res.err
  · obtain ⟨w, ms, rfl, h2, h3, h4, h5⟩ := A.expr _ _ _ _ hb d1 _ _ _ rfl
    rcases bindD_some d2 with ⟨e, p, d3, rfl⟩ | ⟨l', j2, ns2, d3, d4⟩
    · exact Res.err
    · injection d3 with d3
      unfold addD at d3
      split at d3
      · cases d3
      · rename_i hlen
        injection d3 with d3
        injection d3 with e1 d3
        injection d3 with e2 e3
        subst e3
        have g := app_get ns1 (argN (w : Int) l)
        have hb2 : Bd (ns1 ++ [argN (w : Int) l]) := by
          refine ⟨by simp; omega, fun y hy => ?_⟩
          rcases List.mem_append.1 hy with hy | hy
          · exact h4.2 y hy
          · rw [List.mem_singleton.1 hy]; exact RB_0 ..
        have chain : Lw (ns1 ++ [argN (w : Int) l]) (some (n + 1)) (s209 f) lo (w + 1) := by
          rw [← h3] at g
          rcases hl with ⟨rfl, rfl, rfl⟩ | ⟨l0, rfl, q2, q3, q4⟩
          · exact .one g rfl rfl rfl rfl h5.mono
          · refine .more g rfl rfl (by omega) rfl rfl ?_ ?_
            · rw [q2]; exact h5.mono
            · rw [show n + 1 - 1 = n by omega, h2]
              exact q4.mono.mono
        have e1 : l' = ((w + 1 : Nat) : Int) := by rw [← e1, h3]
        subst e1
        have hlen2 : w + 1 + 1 = (ns1 ++ [argN (w : Int) l]).length := by simp; omega
        have hn : 1 ≤ n + 1 := by rcases hl with ⟨rfl, _⟩ | ⟨_, _, _, q, _⟩ <;> omega
        split at d4
        · exact (A.args _ _ _ _ lo _ _ _ hb2 (.inr ⟨w + 1, rfl, hlen2, hn, chain⟩) d4 r).pre (ms := ms ++ [argN (w : Int) l]) (by rw [h2, List.append_assoc])
        split at d4
        · split at d4
          · rename_i h8
            injection d4 with d4
            subst d4
            refine (add_res hb2 (RB_0 ..) ?_).pre (ms := ms ++ [argN (w : Int) l]) (by rw [h2, List.append_assoc])
            have g2 := app_get (ns1 ++ [argN (w : Int) l]) (callN f ((w + 1 : Nat) : Int) (n + 1))
            rw [← hlen2] at g2 ⊢
            exact .call g2 rfl rfl h8 rfl chain.mono
          · injection d4 with d4; subst d4; exact Res.err
        · injection d4 with d4; subst d4; exact Res.err
end
theorem dl (s : List UInt8) : ∀ m, DLall s m := by
  intro m
  induction m with
  | zero => constructor <;> intros <;> exact absurd ‹D s 0 _ _ _ = some _› (by simp [D])
  | succ m A => exact ⟨dl_expr A, dl_chain2 A, dl_loop2 A, dl_chain3 A, dl_loop3 A, dl_unary A, dl_atom A, dl_args A⟩
end Go.Proofs.Qxb6500272aGreat
