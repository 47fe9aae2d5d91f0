/-
  Plain laws: the fresh tower and the fresh model.
-/
import Derived.Test.Qxb6500272aGreatD0
namespace Go.Proofs.Qxb6500272aGreat
open Go
set_option linter.unusedVariables false
set_option linter.unusedSimpArgs false
theorem fidle12 : FIdle s12 := ⟨List.length_replicate, List.length_replicate, List.length_replicate, List.length_replicate, rfl, rfl, rfl, rfl⟩
theorem vidle0 : VIdle (s13 s12) := ⟨fidle12, List.length_replicate, rfl, List.length_replicate, List.length_replicate, rfl, List.length_replicate, rfl⟩
theorem rdOf_nil : rdOf [] = 0 := by
  obtain ⟨S', e, _⟩ := (cellLaw (raw := []) (by simp)).reads 1000 (Nat.le_refl _) (s13 s12) vidle0
  have e0 : s107 1000 (s13 s12) [] = some (s13 s12, 0, 0) := by
    unfold s107
    rw [if_neg (by decide), if_pos (by rfl)]
  rw [e0] at e
  exact (congrArg (fun r => r.2.1) (Option.some.inj e)).symm
theorem cvOf_nil {E : List ValT} (h : EnvOk E) : cvOf [] E = ⟨0, 0, []⟩ := by
  obtain ⟨S', e, _⟩ := (cellLaw (raw := []) (by simp)).cell E h 1000 (Nat.le_refl _) (s13 s12) vidle0
  have e0 : s133 1000 (s13 s12) [] E 24 = some (s13 s12, ⟨0, 0, []⟩, 0) := by
    unfold s133
    rw [if_neg (by decide), if_pos (by rfl)]
    refine l133_ok h ?_ 24 0 1000 (by omega) (by omega)
    intro rec
    unfold l133_0_st
    rw [if_neg (by decide), if_pos (by rfl)]
    rfl
  rw [e0] at e
  exact (congrArg (fun r => r.2.1) (Option.some.inj e)).symm
theorem RDof_emp : RDof empS = List.replicate 24 0 := by
  unfold RDof empS
  rw [List.map_replicate, rdOf_nil]
theorem rdb_rep (c d : Nat) : rdb (List.replicate 24 (0 : BitVec 32)) c d = false := by
  unfold rdb
  rw [List.getD_eq_getElem?_getD, List.getElem?_replicate]
  split <;> simp
theorem all24_rep : All24 (List.replicate 24 (0 : BitVec 32)) := ⟨by simp, fun x hx => by rw [List.eq_of_mem_replicate hx]; exact in24_0⟩
theorem lev0 : LevR (rdb (List.replicate 24 (0 : BitVec 32))) (fun _ => 0) :=
  ⟨fun _ _ => by decide, fun c _ _ => ⟨(fun d _ h => by rw [rdb_rep] at h; cases h), Or.inl rfl⟩, fun _ _ h => by cases h⟩
theorem right0 : Right empS (fun _ => 0) (List.replicate 24 dVal) := by
  refine ⟨env0, (fun _ _ h => by cases h), fun c hc _ => ?_⟩
  rw [empS_at, cvOf_nil env0]
  unfold vl
  rw [List.getD_eq_getElem?_getD, List.getElem?_replicate, if_pos hc]; rfl
theorem ginv0 : GInv s14 := by
  have hl : lv s14.level = fun _ => 0 := by funext c; exact lv_rep 24 c
  refine ⟨all24_rep, all24_rep, fun c d _ _ => by show rdb (List.replicate 24 0) d c = rdb (List.replicate 24 0) c d; rw [rdb_rep, rdb_rep], List.length_replicate, List.length_replicate, in24_0, by rw [hl]; exact lev0, fun c _ => by rw [hl]; show (0 : Int) ≤ 23; decide, fun c _ => ?_⟩
  rw [hl]
  show (0 : BitVec 32).getLsbD c = true ↔ (0 : Int) = -1
  simp
theorem kinv0 : KInv (s15 (s13 s12) s14) := by
  have hl : lv s14.level = fun _ => 0 := by funext c; exact lv_rep 24 c
  refine ⟨vidle0, ginv0, empS_raws, ?_, ?_⟩
  · show List.replicate 24 (0 : BitVec 32) = RDof empS
    rw [RDof_emp]
  · show Right empS (lv s14.level) (List.replicate 24 dVal)
    rw [hl]; exact right0
theorem km0 : KM s32 := by
  refine ⟨fun _ => 0, empS_raws, ?_, right0⟩
  show LevR (rdb (RDof empS)) _
  rw [RDof_emp]; exact lev0
theorem bc0 : BC s8 s9 := by
  refine ⟨⟨⟨⟨fidle12, List.length_replicate, List.length_replicate⟩, kinv0, List.length_replicate⟩, fun j _ => empS_at j, km0, rfl⟩, fun _ => empS, 0, 0, 0, ?_, rfl, rfl, rfl⟩
  refine ⟨List.length_replicate, List.length_replicate, List.length_replicate, List.length_replicate, rfl, by omega, rfl, rfl, by omega, fun _ => empS_raws, fun k hk => ?_, fun _ _ => rfl⟩
  have hT : s8.turned.getD ((0 + k) % 6) 0 = 0 := by
    show (List.replicate 6 (0 : BitVec 32)).getD _ 0 = 0
    rw [List.getD_eq_getElem?_getD, List.getElem?_replicate]
    split <;> rfl
  have hP : ∀ c i, pz s8.pool ((0 + k) % 6) c i = [] := by
    intro c i
    show (List.replicate 288 ([] : List UInt8)).getD _ [] = []
    rw [List.getD_eq_getElem?_getD, List.getElem?_replicate]
    split <;> rfl
  refine ⟨by rw [hT]; exact in24_0, fun c hc hb => by rw [hT] at hb; simp at hb, fun c hc _ => ⟨rfl, hP c 0, hP c 1⟩⟩
def desk0 (quiet : Bool) : DS := ⟨[], [], false, [], [], quiet⟩
theorem dc0 (quiet : Bool) : DC s8 s9 (desk0 quiet) := ⟨bc0, rfl, rfl, by show 0 ≤ 1057; omega, fun h => by cases h⟩
end Go.Proofs.Qxb6500272aGreat
