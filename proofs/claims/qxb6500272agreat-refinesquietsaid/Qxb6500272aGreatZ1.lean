/-
  The argument, opened: a slice of operations.
-/
import Derived.Test.Qxb6500272aGreatCalc
import Derived.ProofKit
import Derived.Carry
namespace Go.Proofs.Qxb6500272aGreat
open Go Go.ChangeShapes Go.WideShapes Go.ChangeAt Go.RowKit
set_option linter.unusedVariables false
set_option linter.unusedSimpArgs false
theorem Tryz.own : ownKnob Tryz.prog.godebug = none := by kernel_rfl
theorem Tryz.laidOut : laidOutB Tryz.prog = true := by kernel_rfl
theorem Tryz.cells38 : Tryz.prog.cellsOf 38 = 6 := by kernel_rfl
theorem Tryz.cells3 : Tryz.prog.cellsOf 3 = 1 := by kernel_rfl
theorem Tryz.cells9 : Tryz.prog.cellsOf 9 = 1 := by kernel_rfl
theorem six {l : List Value} (h : l.length = 6) : ∃ a b c d e f, l = [a, b, c, d, e, f] := by
  match l, h with
  | [a, b, c, d, e, f], _ => exact ⟨a, b, c, d, e, f, rfl⟩
/-- The six cells of one operation. -/
theorem open_op {H : Type} {enc : TypeId × Value → H} {W : World} {base : Nat} {sp : Nat → Bool} {held : Bool} {n : Nat} {cs : List Value} {y : DataW H × List MemPlace}
    (h : DataW.trod enc Tryz.prog W base sp held n 38 cs = some y) : ∃ x : OpT, cs = encOp x := by
  obtain ⟨xs, m, _, _, hl, hlen, hf⟩ := DataW.trod_struct Tryz.underlying38 h
  rw [Tryz.cells38] at hl
  obtain ⟨a, b, c, d, e, f, rfl⟩ := six hl
  have hx : ∀ i, i < 6 → ∃ z, xs[i]? = some z := fun i hi => ⟨xs[i]'(by rw [hlen]; exact hi), List.getElem?_eq_getElem _⟩
  obtain ⟨z0, e0⟩ := hx 0 (by omega)
  obtain ⟨z1, e1⟩ := hx 1 (by omega)
  obtain ⟨z2, e2⟩ := hx 2 (by omega)
  obtain ⟨z3, e3⟩ := hx 3 (by omega)
  obtain ⟨z4, e4⟩ := hx 4 (by omega)
  obtain ⟨z5, e5⟩ := hx 5 (by omega)
  have g0 : DataW.trod enc Tryz.prog W base sp held m 3 [a] = some z0 := by simpa [Tryz.cells3, e0] using hf 0 _ rfl
  have g1 : DataW.trod enc Tryz.prog W base sp held m 3 [b] = some z1 := by simpa [Tryz.cells3, e1] using hf 1 _ rfl
  have g2 : DataW.trod enc Tryz.prog W base sp held m 3 [c] = some z2 := by simpa [Tryz.cells3, e2] using hf 2 _ rfl
  have g3 : DataW.trod enc Tryz.prog W base sp held m 3 [d] = some z3 := by simpa [Tryz.cells3, e3] using hf 3 _ rfl
  have g4 : DataW.trod enc Tryz.prog W base sp held m 9 [e] = some z4 := by simpa [Tryz.cells9, e4] using hf 4 _ rfl
  have g5 : DataW.trod enc Tryz.prog W base sp held m 9 [f] = some z5 := by simpa [Tryz.cells9, e5] using hf 5 _ rfl
  obtain ⟨n0, k0, _⟩ := DataW.trod_int Tryz.underlying3 g0
  obtain ⟨n1, k1, _⟩ := DataW.trod_int Tryz.underlying3 g1
  obtain ⟨n2, k2, _⟩ := DataW.trod_int Tryz.underlying3 g2
  obtain ⟨n3, k3, _⟩ := DataW.trod_int Tryz.underlying3 g3
  obtain ⟨s4, k4, _⟩ := DataW.trod_string Tryz.underlying9 g4
  obtain ⟨s5, k5, _⟩ := DataW.trod_string Tryz.underlying9 g5
  simp at k0 k1 k2 k3 k4 k5
  subst k0; subst k1; subst k2; subst k3; subst k4; subst k5
  exact ⟨⟨n0, n1, n2, n3, s4.data.toList, s5.data.toList⟩, rfl⟩
theorem add_at {b o i : Nat} : (⟨b, o, none⟩ : Addr).add i = ⟨b, o + i, none⟩ := by
  unfold Addr.add
  split
  · rename_i h; subst h; rfl
  · rfl
theorem rowAt_of {W : World} {base b o : Nat} {l : List Value} (h : W.cells? base ⟨b, o, none⟩ l.length = some l) : RowAt W.heap b o l := by
  obtain ⟨_, _, hc⟩ := World.cells?_some h
  intro j hj
  have h1 := hc j hj
  rw [List.getElem?_eq_getElem hj] at h1
  rw [List.getElem?_eq_getElem hj]
  rw [add_at] at h1
  unfold World.cell? at h1
  unfold rd
  split at h1
  · rename_i c t fr hb
    have hb' : W.heap[b]? = _ := hb
    rw [hb']
    simpa using h1
  · cases h1
theorem spot_of {W : World} {base : Nat} {a : Addr} {cs : List Value} (h : W.cells? base a 6 = some cs) : a.spot = none := by
  obtain ⟨_, hl, hc⟩ := World.cells?_some h
  have h0 := hc 0 (by omega)
  have hl0 : 0 < cs.length := by omega
  rw [List.getElem?_eq_getElem hl0] at h0
  simpa [Addr.add] using World.cell?_spot h0
/-- The slice's operations lie where the loop looks for them. -/
theorem open_ops {H : Type} {enc : TypeId × Value → H} {W : World} {base : Nat} {sp : Nat → Bool} {held : Bool} {fuel : Nat} {a0 : Option Addr} {len cap : Nat} {x : DataW H × List MemPlace}
    (h : DataW.trod enc Tryz.prog W base sp held fuel 22 [.slice a0 len cap] = some x) :
    ∃ ops : Nat → OpT, ∀ i, i < len → ∃ p o, a0 = some ⟨p, o, none⟩ ∧ RowAt W.heap p (o + i * 6) (encOp (ops i)) := by
  have : ∀ i, ∃ x : OpT, i < len → ∃ p o, a0 = some ⟨p, o, none⟩ ∧ RowAt W.heap p (o + i * 6) (encOp x) := by
    intro i
    by_cases hi : i < len
    · rcases DataW.trod_slice Tryz.underlying22 h with ⟨h0, _⟩ | ⟨a, len', cap', elems, rest, n, _, hc, _, hb, hl, hm, hlen, hel, _⟩
      · simp at h0; omega
      · simp at hc
        obtain ⟨rfl, rfl, rfl⟩ := hc
        rw [Tryz.cells38] at hel
        have h0 := hel 0 (by omega)
        rw [List.getElem?_eq_getElem (by omega), Option.bind_eq_some_iff] at h0
        obtain ⟨cs0, h4, _⟩ := h0
        replace h4 : W.cells? base a 6 = some cs0 := by
          have e : a.add (0 * 6) = a := rfl
          rw [e] at h4
          exact h4
        have hs := spot_of h4
        obtain ⟨b, off, spot⟩ := a
        have hs' : spot = none := hs
        subst hs'
        have h1 := hel i hi
        rw [List.getElem?_eq_getElem (by omega), Option.bind_eq_some_iff] at h1
        obtain ⟨cs, h2, h3⟩ := h1
        obtain ⟨x, rfl⟩ := open_op h3
        rw [add_at] at h2
        exact ⟨x, fun _ => ⟨b, off, rfl, rowAt_of (l := encOp x) h2⟩⟩
    · exact ⟨⟨0, 0, 0, 0, [], []⟩, fun h => absurd h hi⟩
  exact ⟨fun i => (this i).choose, fun i hi => (this i).choose_spec hi⟩
end Go.Proofs.Qxb6500272aGreat
