/-
  Plain laws, printing: Print on both sides.
-/
import Derived.Test.Qxb6500272aGreatP4
namespace Go.Proofs.Qxb6500272aGreat
open Go
set_option linter.unusedVariables false
set_option linter.unusedSimpArgs false
/-- The text of a tree (by choice of the one that both sides give). -/
theorem s123_ok {n : Nat} (hn : 100 ≤ n) {t : TreeV} (h : TreeOK t) : ∃ T : List UInt8, T.length ≤ 288 ∧ (∀ S : FMS, s123 n S t = some ({ S with prints := IntKind.wrap .i64 (S.prints + 1) }, T, 0)) ∧
    ∀ S : FoS, S.notes.length = 24 → S.out.length = 288 → ∃ (N : List NoteT) (O : List Int) (w : Int), s119 n S t = some ({ S with notes := N, out := O, w := w }, T, 0) ∧ N.length = 24 ∧ O.length = 288 := by
  obtain ⟨T, hT, h1, h2, h3⟩ := print_ok hn h
  have hl := h.bd.1
  refine ⟨T, hT, fun S => ?_, fun S a b => ?_⟩
  rotate_left
  · obtain ⟨N, O, w, e, c, d⟩ := h3 S a b
    refine ⟨N, O, w, ?_, c, d⟩
    unfold s119
    rw [if_neg (by omega), bindT (h.check hn), if_pos rfl, bindT e]
  unfold s123
  rw [if_neg (by omega), bindT (h.check hn), if_pos rfl, bindT (h2 1 (by decide))]
end Go.Proofs.Qxb6500272aGreat
