/-
  Plain laws, printing: the program's print is the model's show.
-/
import Derived.Test.Qxb6500272aGreatP3
namespace Go.Proofs.Qxb6500272aGreat
open Go
set_option linter.unusedVariables false
set_option linter.unusedSimpArgs false
theorem toI_ok (t : List UInt8) : ∀ x ∈ toI t, byteOK x := by
  intro y hy
  unfold toI at hy
  obtain ⟨b, _, rfl⟩ := List.mem_map.1 hy
  have := b.toNat_lt
  show 0 ≤ (b.toNat : Int) ∧ (b.toNat : Int) ≤ 255
  omega
theorem toI_back (t : List UInt8) : (toI t).map (fun x => UInt8.ofNat x.toNat) = t := by
  unfold toI
  rw [List.map_map]
  conv => rhs; rw [← List.map_id t]
  apply List.map_congr_left
  intro b _
  show UInt8.ofNat ((b.toNat : Int)).toNat = b
  rw [Int.toNat_natCast]
  exact UInt8.ofNat_toNat
theorem print_ok {n : Nat} (hn : 100 ≤ n) {t : TreeV} (h : TreeOK t) : ∃ T : List UInt8, T.length ≤ 288 ∧ 0 < t.nodes.length ∧ (∀ z, z ≤ 1 → s151 n t.nodes t.nodes.length t.root z = some T) ∧
    ∀ S : FoS, S.notes.length = 24 → S.out.length = 288 → ∃ (N : List NoteT) (O : List Int) (w : Int), s143 n S t.nodes t.nodes.length = some ({ S with notes := N, out := O, w := w }, T) ∧ N.length = 24 ∧ O.length = 288 := by
  obtain ⟨w, e1, e2, e3⟩ := h.lw
  have hlen := h.bd.1
  obtain ⟨x, T, g1, ⟨g0, g2⟩, g3, g4, _⟩ := e3.text hn h.bd
  have hTl : T.length ≤ 12 * (w + 1 - 0) := by split at g2 <;> omega
  have hbd := s190_bd x
  refine ⟨T, by omega, by omega, fun z hz => ?_, fun S hN hO => ?_⟩
  · have := g4 rfl n z (by omega)
    rw [show decide (s190 x < z) = false from decide_eq_false (by omega)] at this
    rw [e1]
    exact this
  · unfold s143
    have e0 : ((t.nodes.length : Nat) : Int) - 1 = (w : Int) := by omega
    have hT24 : T.length ≤ 288 := by omega
    rw [e0, ckF (by constructor <;> omega), bindT (getT (x := S.notes[w]'(by omega)) (by omega) (by omega) (by rw [Int.toNat_natCast]; exact List.getElem?_eq_getElem (by omega))), Int.toNat_natCast]
    obtain ⟨m, hm⟩ : ∃ m, n = (m + 1) + (w - 0) + 1 := ⟨n - w - 2, by omega⟩
    obtain ⟨N, j, h1, h2, h3, h4⟩ := g3 (m + 1) { S with notes := S.notes.set w ⟨-1, false⟩, w := 288 } (-1) false (by show (S.notes.set w _).length = 24; rw [List.length_set]; exact hN) (by show (S.notes.set w _)[w]? = _; rw [List.getElem?_set_self (by omega)]) (fun h => by cases h) ⟨hO, by show ((T.length : Nat) : Int) ≤ 288; omega, by show (288 : Int) ≤ 288; omega⟩
    have hrun := h4
    rw [← hm] at hrun
    refine ⟨N, (pre (nt' { S with notes := S.notes.set w ⟨-1, false⟩, w := 288 } N) T).out, (288 : Int) - T.length, ?_, h1, ?_⟩
    · rw [hrun]
      obtain ⟨g, hg⟩ : ∃ g, n - j = g + 1 := ⟨n - j - 1, by omega⟩
      have hw : N[w]? = some ⟨-1, false⟩ := by
        rw [h2 w (by omega)]
        show (S.notes.set w _)[w]? = _
        rw [List.getElem?_set_self (by omega)]
      have hcl : l185_2 n t.nodes t.nodes.length (n - j) (w : Int) (pre (nt' { S with notes := S.notes.set w ⟨-1, false⟩, w := 288 } N) (bq false T)) = some (pre (nt' { S with notes := S.notes.set w ⟨-1, false⟩, w := 288 } N) T) := by
        rw [hg]
        show l185_2_st n t.nodes t.nodes.length (l185_2 n t.nodes t.nodes.length g) (w : Int) _ = _
        unfold l185_2_st
        rw [bindT (getT (x := ⟨-1, false⟩) (by omega) (by omega) (by rw [Int.toNat_natCast]; exact hw)), if_neg (by decide)]
        rfl
      rw [bindT hcl]
      unfold k143_2
      rw [ckF (by constructor <;> omega)]
      have hR : Room (nt' { S with notes := S.notes.set w ⟨-1, false⟩, w := 288 } N) (T.length + 0) := ⟨hO, by show ((T.length + 0 : Nat) : Int) ≤ 288; omega, by show (288 : Int) ≤ 288; omega⟩
      have hO2 := (pre_room hR).out
      show l143_7_st n t.nodes t.nodes.length (l143_7 n t.nodes t.nodes.length m) ((0 : Nat) - 1 : Int) _ = _
      unfold l143_7_st
      rw [if_neg (by omega)]
      have hwv : (pre (nt' { S with notes := S.notes.set w ⟨-1, false⟩, w := 288 } N) T).w = 288 - (T.length : Int) := rfl
      rw [hwv]
      have h1T : 0 < T.length := g0
      rw [ckF (by omega)]
      have hts : toS (pre (nt' { S with notes := S.notes.set w ⟨-1, false⟩, w := 288 } N) T).out (Int.toNat (288 - (T.length : Int))) (288 - Int.toNat (288 - (T.length : Int))) = some T := by
        have hout : (pre (nt' { S with notes := S.notes.set w ⟨-1, false⟩, w := 288 } N) T).out = S.out.take (288 - T.length) ++ (toI T ++ S.out.drop 288) := rfl
        rw [hout, show Int.toNat (288 - (T.length : Int)) = 288 - T.length by omega]
        have hd : (S.out.take (288 - T.length) ++ (toI T ++ S.out.drop 288)).drop (288 - T.length) = toI T := by
          have hl : (S.out.take (288 - T.length)).length = 288 - T.length := by rw [List.length_take]; omega
          have := List.drop_left (l₁ := S.out.take (288 - T.length)) (l₂ := toI T ++ S.out.drop 288)
          rw [hl] at this
          rw [this, List.drop_eq_nil_of_le (by omega), List.append_nil]
        unfold toS bytesAt
        have ht : (toI T).take (288 - (288 - T.length)) = toI T := List.take_of_length_le (by rw [toI_len]; omega)
        rw [hd, ht, if_pos ⟨by have := hO2; rw [hout] at this; omega, toI_ok T⟩, toI_back]
      rw [bindT hts]
      rfl
    · exact (pre_room (S := nt' { S with notes := S.notes.set w ⟨-1, false⟩, w := 288 } N) (t := T) (n := 0) ⟨hO, by show ((T.length + 0 : Nat) : Int) ≤ 288; omega, by show (288 : Int) ≤ 288; omega⟩).out
end Go.Proofs.Qxb6500272aGreat
