/-
  '==' on the program's two struct types; the calculus at this program.
-/
import Derived.Test.Qxb6500272aGreatSound
namespace Go.Proofs.Qxb6500272aGreat
open Go
set_option linter.unusedSimpArgs false

theorem shape94 {l : List Value} (h : shapeOK 94 l = true) : ∃ (a b : Int) (s : List UInt8), l = [.int .i64 a, .int .i64 b, .string ⟨⟨s⟩⟩] := by
  unfold shapeOK at h
  split at h
  · exact ⟨_, _, _, rfl⟩
  · rename_i ht; cases ht
  · cases h
theorem shape153 {l : List Value} (h : shapeOK 153 l = true) : ∃ (a1 a2 a3 a4 a5 a6 a7 : Int) (b1 b2 : Bool) (a8 a9 : Int) (b3 b4 : Bool),
    l = [.int .i64 a1, .int .i64 a2, .int .i64 a3, .int .i64 a4, .int .i64 a5, .int .i64 a6, .int .i64 a7, .bool b1, .bool b2, .int .i64 a8, .int .i64 a9, .bool b3, .bool b4] := by
  unfold shapeOK at h
  split at h
  · rename_i ht; cases ht
  · exact ⟨_, _, _, _, _, _, _, _, _, _, _, _, _, rfl⟩
  · cases h
theorem shape_t {t : Nat} {l : List Value} (h : shapeOK t l = true) : t = 94 ∨ t = 153 := by
  unfold shapeOK at h
  split at h
  · exact .inl rfl
  · exact .inr rfl
  · cases h

theorem fl94 : (Tryz.prog.fieldsOf 94).toList = [{ name := "Kind", type := 3, offset := 0, embedded := false, tag := "", pkgPath := "", byteOffset := 0 }, { name := "N", type := 3, offset := 1, embedded := false, tag := "", pkgPath := "", byteOffset := 8 }, { name := "S", type := 9, offset := 2, embedded := false, tag := "", pkgPath := "", byteOffset := 16 }] := by kernel_rfl
theorem fl153 : (Tryz.prog.fieldsOf 153).toList = [{ name := "Kind", type := 3, offset := 0, embedded := false, tag := "", pkgPath := "", byteOffset := 0 }, { name := "Op", type := 3, offset := 1, embedded := false, tag := "", pkgPath := "", byteOffset := 8 }, { name := "A", type := 3, offset := 2, embedded := false, tag := "", pkgPath := "", byteOffset := 16 }, { name := "B", type := 3, offset := 3, embedded := false, tag := "", pkgPath := "", byteOffset := 24 }, { name := "N", type := 3, offset := 4, embedded := false, tag := "", pkgPath := "", byteOffset := 32 }, { name := "R1", type := 151, offset := 5, embedded := false, tag := "", pkgPath := "", byteOffset := 40 }, { name := "R2", type := 151, offset := 9, embedded := false, tag := "", pkgPath := "", byteOffset := 64 }] := by kernel_rfl
theorem fl151 : (Tryz.prog.fieldsOf 151).toList = [{ name := "Col", type := 3, offset := 0, embedded := false, tag := "", pkgPath := "", byteOffset := 0 }, { name := "Row", type := 3, offset := 1, embedded := false, tag := "", pkgPath := "", byteOffset := 8 }, { name := "AbsC", type := 4, offset := 2, embedded := false, tag := "", pkgPath := "", byteOffset := 16 }, { name := "AbsR", type := 4, offset := 3, embedded := false, tag := "", pkgPath := "", byteOffset := 17 }] := by kernel_rfl

theorem agg3 (w : World) : (isAgg 3).run Tryz.prog w = .ok false w := by rw [run_isAgg' (by kernel_rfl) w, show aggB Tryz.prog 3 = false from by kernel_rfl]
theorem agg4 (w : World) : (isAgg 4).run Tryz.prog w = .ok false w := by rw [run_isAgg' (by kernel_rfl) w, show aggB Tryz.prog 4 = false from by kernel_rfl]
theorem agg9 (w : World) : (isAgg 9).run Tryz.prog w = .ok false w := by rw [run_isAgg' (by kernel_rfl) w, show aggB Tryz.prog 9 = false from by kernel_rfl]
theorem agg151 (w : World) : (isAgg 151).run Tryz.prog w = .ok true w := by rw [run_isAgg' (by kernel_rfl) w, show aggB Tryz.prog 151 = true from by kernel_rfl]
theorem size151 (w : World) : (sizeOf 151).run Tryz.prog w = .ok 4 w := by rw [run_sizeOf' (by kernel_rfl) w, show szOf Tryz.prog 151 = 4 from by kernel_rfl]

theorem eql3 (d : Nat) (a b : Int) (w : World) : (Op.equalIn (d + 1) 3 (.int .i64 a) (.int .i64 b)).run Tryz.prog w = .ok (decide (a = b)) w := run_equalIn_int w d 3 .i64 .i64 a b (by kernel_rfl)
theorem eql4 (d : Nat) (a b : Bool) (w : World) : (Op.equalIn (d + 1) 4 (.bool a) (.bool b)).run Tryz.prog w = .ok (a == b) w := run_equalIn_bool' w d 4 a b (by kernel_rfl)
theorem eql9 (d : Nat) (a b : List UInt8) (w : World) : (Op.equalIn (d + 1) 9 (.string ⟨⟨a⟩⟩) (.string ⟨⟨b⟩⟩)).run Tryz.prog w = .ok (a == b) w := by
  rw [run_equalIn_string w d 9 _ _ (by kernel_rfl), bytes_toList, bytes_toList]

theorem eql151 (d : Nat) (a1 a2 : Int) (b1 b2 : Bool) (c1 c2 : Int) (d1 d2 : Bool) (w : World) :
    (Op.equalIn (d + 2) 151 (.agg #[.int .i64 a1, .int .i64 a2, .bool b1, .bool b2]) (.agg #[.int .i64 c1, .int .i64 c2, .bool d1, .bool d2])).run Tryz.prog w =
      .ok (decide (a1 = c1) && (decide (a2 = c2) && ((b1 == d1) && (b2 == d2)))) w := by
  rw [show d + 2 = (d + 1) + 1 from rfl, run_equalIn_agg w (d + 1) 151 _ _ (by kernel_rfl) (by kernel_rfl), fl151]
  simp [Op.eqFields, part, agg3, agg4, eql3, eql4]
  by_cases h1 : a1 = c1 <;> by_cases h2 : a2 = c2 <;> by_cases h3 : b1 = d1 <;> by_cases h4 : b2 = d2 <;> simp [h1, h2, h3, h4]

theorem eqOK : EqOK Tryz.prog := by
  refine ⟨fun a b w => eql4 9999 a b w, fun t a b w ha hb => ?_⟩
  rcases shape_t ha with rfl | rfl
  · obtain ⟨a1, a2, s, rfl⟩ := shape94 ha
    obtain ⟨b1, b2, t, rfl⟩ := shape94 hb
    refine ⟨?_, fun op x y => run_eqGuard_agg w op 94 x y _ _ (by kernel_rfl)⟩
    show (Op.equalIn (9999 + 1) 94 _ _).run Tryz.prog w = _
    rw [run_equalIn_agg w 9999 94 _ _ (by kernel_rfl) (by kernel_rfl), fl94]
    simp [Op.eqFields, part, agg3, agg9, eql3 9998, eql9 9998, eqCells]
    by_cases h1 : a1 = b1 <;> by_cases h2 : a2 = b2 <;> by_cases h3 : s = t <;> simp [h1, h2, h3]
  · obtain ⟨a1, a2, a3, a4, a5, a6, a7, c1, c2, a8, a9, c3, c4, rfl⟩ := shape153 ha
    obtain ⟨b1, b2, b3, b4, b5, b6, b7, d1, d2, b8, b9, d3, d4, rfl⟩ := shape153 hb
    refine ⟨?_, fun op x y => run_eqGuard_agg w op 153 x y _ _ (by kernel_rfl)⟩
    show (Op.equalIn (9999 + 1) 153 _ _).run Tryz.prog w = _
    rw [run_equalIn_agg w 9999 153 _ _ (by kernel_rfl) (by kernel_rfl), fl153]
    simp [Op.eqFields, part, agg3, agg151, size151, eql3 9998, eql151 9997, eqCells]
    by_cases h1 : a1 = b1
    case neg => simp [h1]
    by_cases h2 : a2 = b2
    case neg => simp [h1, h2]
    by_cases h3 : a3 = b3
    case neg => simp [h1, h2, h3]
    by_cases h4 : a4 = b4
    case neg => simp [h1, h2, h3, h4]
    by_cases h5 : a5 = b5
    case neg => simp [h1, h2, h3, h4, h5]
    by_cases h6 : a6 = b6
    case neg => simp [h1, h2, h3, h4, h5, h6]
    by_cases h7 : a7 = b7
    case neg => simp [h1, h2, h3, h4, h5, h6, h7]
    by_cases h8 : c1 = d1
    case neg => simp [h1, h2, h3, h4, h5, h6, h7, h8]
    by_cases h9 : c2 = d2
    case neg => simp [h1, h2, h3, h4, h5, h6, h7, h8, h9]
    by_cases h10 : a8 = b8
    case neg => simp [h1, h2, h3, h4, h5, h6, h7, h8, h9, h10]
    by_cases h11 : a9 = b9
    case neg => simp [h1, h2, h3, h4, h5, h6, h7, h8, h9, h10, h11]
    by_cases h12 : c3 = d3
    case neg => simp [h1, h2, h3, h4, h5, h6, h7, h8, h9, h10, h11, h12]
    by_cases h13 : c4 = d4 <;> simp [h1, h2, h3, h4, h5, h6, h7, h8, h9, h10, h11, h12, h13]

/-- A contract out of the condition that 'wpx' comes to. -/
theorem hcalls_of {f : FuncId} {fn : Func} {args : List Value} {A : Ann} {H : Heap} {R : Value → Heap → Prop} (hf : Tryz.prog.funcs[f]? = some fn) (hg : goodB Tryz.prog A fn = true)
    {vc : Prop} (he : vc = wpx Tryz.prog A 0 (bodyOf fn) (postx Tryz.prog fn R) ⟨initR args fn.ntmps, []⟩ H) (h : vc) : HCalls Tryz.prog f ⟨args⟩ H R :=
  hcalls_any eqOK hf hg (he ▸ h)

/-- The operations of a region of a function, by the region's number. -/
def opsIn (id : Nat) : Code → Option (Array Oper)
  | .region i ops _ => if i == id then some ops else none
  | .seq a b => match opsIn id a with | some x => some x | none => opsIn id b
  | .cond _ a b => match opsIn id a with | some x => some x | none => opsIn id b
  | .block _ a => opsIn id a
  | .loop a => opsIn id a
  | _ => none
def opsAt (fn : Func) (id : Nat) : Array Oper := (opsIn id (bodyOf fn)).getD #[]

end Go.Proofs.Qxb6500272aGreat
