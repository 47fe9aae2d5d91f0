import Derived.Test.Qxb6500272aGreatC3
/- The contracts. Printed by tools/mkall.py. -/
namespace Go.Proofs.Qxb6500272aGreat
open Go
set_option linter.unusedVariables false
set_option linter.unusedSimpArgs false
set_option maxHeartbeats 4000000

theorem c228 (z0 : ValT) (z1 : ValT) (z2 : ValT) (r_ : ValT) (h : s228 z0 z1 z2 = r_) (F : List Ent) (H : Heap) (R : Value → Heap → Prop)
    (hO : Own H [] F)
    (hR : ∀ (H' : Heap) , Own H' [] F → R (.agg ⟨encVal r_⟩) H') :
    HCalls Tryz.prog 228 #[Value.agg ⟨encVal z0⟩, Value.agg ⟨encVal z1⟩, Value.agg ⟨encVal z2⟩] H R := by
  refine vc228 z0 z1 z2 H R ?_
  unfold s228 at h
  intro H21 eH21
  replace hO := own_new (l := encVal z0) hO eH21 rfl
  intro H22 eH22
  replace hO := own_new (l := encVal z1) hO eH22 rfl
  intro H23 eH23
  replace hO := own_new (l := encVal z2) hO eH23 rfl
  intro H24 eH24
  replace hO := own_new (l := encVal (⟨(0 : Int), (0 : Int), ([] : List UInt8)⟩ : ValT)) hO eH24 rfl
  refine ⟨z0.kind, ((hO.blk (.tail _ (.tail _ (.tail _ (.head _))))).rdv rfl), ?_⟩
  refine ⟨fun w25 => ?_, fun w26 => ?_⟩
  · replace h := ifTd w25 h
    refine ⟨z0, (hO.blk (.tail _ (.tail _ (.tail _ (.head _))))).rowT rfl, ?_⟩
    refine ⟨(hO.blk (.head _)).wr (Nat.le_of_ble_eq_true rfl), ?_⟩
    intro H27 eH27
    replace hO := oz0 (l' := encVal z0) hO eH27 rfl
    refine ⟨z0, (hO.blk (.head _)).rowT rfl, ?_⟩
    subst h
    exact hR _ (dr0 (dr0 (dr0 (dr0 (hO)))))

  · replace h := ifFd w26 h
    refine ⟨z0.kind, ((hO.blk (.tail _ (.tail _ (.tail _ (.head _))))).rdv rfl), ?_⟩
    refine ⟨fun w28 => ?_, fun w29 => ?_⟩
    · replace w28 := bnotT w28
      replace h := ifFd w28 h
      refine c131 (5 : Int) _ rfl _ _ _ (fr0 hO) (fun H30 hO => ?_)
      replace hO := un0 hO
      refine ⟨(s131 (5 : Int)), rfl, ?_⟩
      refine ⟨(hO.blk (.head _)).wr (Nat.le_of_ble_eq_true rfl), ?_⟩
      intro H31 eH31
      replace hO := oz0 (l' := encVal (s131 (5 : Int))) hO eH31 rfl
      refine ⟨(s131 (5 : Int)), (hO.blk (.head _)).rowT rfl, ?_⟩
      subst h
      exact hR _ (dr0 (dr0 (dr0 (dr0 (hO)))))

    · replace w29 := bnotF w29
      replace h := ifTd w29 h
      refine ⟨z0.n, ((hO.blk (.tail _ (.tail _ (.tail _ (.head _))))).rdv rfl), ?_⟩
      refine ⟨fun w32 => ?_, fun w33 => ?_⟩
      · replace h := ifTd w32 h
        refine ⟨z1, (hO.blk (.tail _ (.tail _ (.head _)))).rowT rfl, ?_⟩
        refine ⟨(hO.blk (.head _)).wr (Nat.le_of_ble_eq_true rfl), ?_⟩
        intro H34 eH34
        replace hO := oz0 (l' := encVal z1) hO eH34 rfl
        refine ⟨z1, (hO.blk (.head _)).rowT rfl, ?_⟩
        subst h
        exact hR _ (dr0 (dr0 (dr0 (dr0 (hO)))))

      · replace h := ifFd w33 h
        refine ⟨z2, (hO.blk (.tail _ (.head _))).rowT rfl, ?_⟩
        refine ⟨(hO.blk (.head _)).wr (Nat.le_of_ble_eq_true rfl), ?_⟩
        intro H35 eH35
        replace hO := oz0 (l' := encVal z2) hO eH35 rfl
        refine ⟨z2, (hO.blk (.head _)).rowT rfl, ?_⟩
        subst h
        exact hR _ (dr0 (dr0 (dr0 (dr0 (hO)))))





theorem c240 (z0 : FoldT) (z1 : Int) (z2 : ValT) (z3 : Bool) (r_ : FoldT) (h : s240 z0 z1 z2 z3 = some r_) (F : List Ent) (H : Heap) (R : Value → Heap → Prop)
    (hO : Own H [] F)
    (hR : ∀ (H' : Heap) , Own H' [] F → R (.agg ⟨encFold r_⟩) H') :
    HCalls Tryz.prog 240 #[Value.agg ⟨encFold z0⟩, I z1, Value.agg ⟨encVal z2⟩, Value.bool z3] H R := by
  refine vc240 z0 z1 z2 z3 H R ?_
  unfold s240 at h
  intro H21 eH21
  replace hO := own_new (l := encFold z0) hO eH21 rfl
  intro H22 eH22
  replace hO := own_new (l := encVal z2) hO eH22 rfl
  intro H23 eH23
  replace hO := own_new (l := encFold (⟨(⟨(0 : Int), (0 : Int), ([] : List UInt8)⟩ : ValT), (0 : Int), (0 : Int), (0 : Int), (0 : Int), false, false⟩ : FoldT)) hO eH23 rfl
  refine ⟨z0.bad.kind, ((hO.blk (.tail _ (.tail _ (.head _)))).rdv rfl), ?_⟩
  refine ⟨fun w24 => ?_, fun w25 => ?_⟩
  · replace h := ifTd w24 h
    refine ⟨z0, (hO.blk (.tail _ (.tail _ (.head _)))).rowT rfl, ?_⟩
    refine ⟨(hO.blk (.head _)).wr (Nat.le_of_ble_eq_true rfl), ?_⟩
    intro H26 eH26
    replace hO := oz0 (l' := encFold z0) hO eH26 rfl
    refine ⟨z0, (hO.blk (.head _)).rowT rfl, ?_⟩
    obtain rfl := Option.some.inj h
    exact hR _ (dr0 (dr0 (dr0 (hO))))

  · replace h := ifFd w25 h
    refine ⟨z2.kind, ((hO.blk (.tail _ (.head _))).rdv rfl), ?_⟩
    refine ⟨fun w27 => ?_, fun w28 => ?_⟩
    · replace h := ifTd w27 h
      refine ⟨z2, (hO.blk (.tail _ (.head _))).rowT rfl, ?_⟩
      refine ⟨(hO.blk (.tail _ (.tail _ (.head _)))).wr (Nat.le_of_ble_eq_true rfl), ?_⟩
      intro H29 eH29
      replace hO := oz2 (l' := encFold ({ z0 with bad := z2 })) hO eH29 rfl
      refine ⟨{ z0 with bad := z2 }, (hO.blk (.tail _ (.tail _ (.head _)))).rowT rfl, ?_⟩
      refine ⟨(hO.blk (.head _)).wr (Nat.le_of_ble_eq_true rfl), ?_⟩
      intro H30 eH30
      replace hO := oz0 (l' := encFold ({ z0 with bad := z2 })) hO eH30 rfl
      refine ⟨{ z0 with bad := z2 }, (hO.blk (.head _)).rowT rfl, ?_⟩
      obtain rfl := Option.some.inj h
      exact hR _ (dr0 (dr0 (dr0 (hO))))

    · replace h := ifFd w28 h
      refine ⟨fun w32 => ?_, fun w31 => ?_⟩
      · replace h := ifFd w32 h
        refine ⟨fun w33 => ?_, fun w34 => ?_⟩
        · replace h := ifTd w33 h
          refine ⟨z2.kind, ((hO.blk (.tail _ (.head _))).rdv rfl), ?_⟩
          refine ⟨fun w35 => ?_, fun w36 => ?_⟩
          · replace w35 := bnotT w35
            replace h := ifFd w35 h
            refine c131 (5 : Int) _ rfl _ _ _ (fr0 hO) (fun H37 hO => ?_)
            replace hO := un0 hO
            refine ⟨(s131 (5 : Int)), rfl, ?_⟩
            refine ⟨(hO.blk (.tail _ (.tail _ (.head _)))).wr (Nat.le_of_ble_eq_true rfl), ?_⟩
            intro H38 eH38
            replace hO := oz2 (l' := encFold ({ z0 with bad := (s131 (5 : Int)) })) hO eH38 rfl
            refine ⟨{ z0 with bad := (s131 (5 : Int)) }, (hO.blk (.tail _ (.tail _ (.head _)))).rowT rfl, ?_⟩
            refine ⟨(hO.blk (.head _)).wr (Nat.le_of_ble_eq_true rfl), ?_⟩
            intro H39 eH39
            replace hO := oz0 (l' := encFold ({ z0 with bad := (s131 (5 : Int)) })) hO eH39 rfl
            refine ⟨{ z0 with bad := (s131 (5 : Int)) }, (hO.blk (.head _)).rowT rfl, ?_⟩
            obtain rfl := Option.some.inj h
            exact hR _ (dr0 (dr0 (dr0 (hO))))

          · replace w36 := bnotF w36
            replace h := ifTd w36 h
            refine ⟨z0.all, ((hO.blk (.tail _ (.tail _ (.head _)))).rdv rfl), ?_⟩
            refine ⟨fun w40 => ?_, fun w41 => ?_⟩
            · replace h := ifTb w40 h
              refine ⟨z2.n, ((hO.blk (.tail _ (.head _))).rdv rfl), ?_⟩
              refine ⟨(hO.blk (.tail _ (.tail _ (.head _)))).wr (Nat.le_of_ble_eq_true rfl), ?_⟩
              intro H42 eH42
              replace hO := os2 (l' := encFold ({ z0 with all := decide (z2.n = (1 : Int)) })) hO eH42 rfl
              refine ⟨z0.some, ((hO.blk (.tail _ (.tail _ (.head _)))).rdv rfl), ?_⟩
              refine ⟨fun w44 => ?_, fun w43 => ?_⟩
              · replace h := ifFb w44 h
                refine ⟨z2.n, ((hO.blk (.tail _ (.head _))).rdv rfl), ?_⟩
                refine ⟨(hO.blk (.tail _ (.tail _ (.head _)))).wr (Nat.le_of_ble_eq_true rfl), ?_⟩
                intro H45 eH45
                replace hO := os2 (l' := encFold ({ z0 with all := decide (z2.n = (1 : Int)), some := decide (z2.n = (1 : Int)) })) hO eH45 rfl
                refine ⟨{ z0 with all := decide (z2.n = (1 : Int)), some := decide (z2.n = (1 : Int)) }, (hO.blk (.tail _ (.tail _ (.head _)))).rowT rfl, ?_⟩
                refine ⟨(hO.blk (.head _)).wr (Nat.le_of_ble_eq_true rfl), ?_⟩
                intro H46 eH46
                replace hO := oz0 (l' := encFold ({ z0 with all := decide (z2.n = (1 : Int)), some := decide (z2.n = (1 : Int)) })) hO eH46 rfl
                refine ⟨{ z0 with all := decide (z2.n = (1 : Int)), some := decide (z2.n = (1 : Int)) }, (hO.blk (.head _)).rowT rfl, ?_⟩
                obtain rfl := Option.some.inj h
                exact hR _ (dr0 (dr0 (dr0 (hO))))

              · replace h := ifTb w43 h
                refine ⟨(hO.blk (.tail _ (.tail _ (.head _)))).wr (Nat.le_of_ble_eq_true rfl), ?_⟩
                intro H47 eH47
                replace hO := os2 (l' := encFold ({ z0 with all := decide (z2.n = (1 : Int)), some := true })) hO eH47 rfl
                refine ⟨{ z0 with all := decide (z2.n = (1 : Int)), some := true }, (hO.blk (.tail _ (.tail _ (.head _)))).rowT rfl, ?_⟩
                refine ⟨(hO.blk (.head _)).wr (Nat.le_of_ble_eq_true rfl), ?_⟩
                intro H48 eH48
                replace hO := oz0 (l' := encFold ({ z0 with all := decide (z2.n = (1 : Int)), some := true })) hO eH48 rfl
                refine ⟨{ z0 with all := decide (z2.n = (1 : Int)), some := true }, (hO.blk (.head _)).rowT rfl, ?_⟩
                obtain rfl := Option.some.inj h
                exact hR _ (dr0 (dr0 (dr0 (hO))))


            · replace h := ifFb w41 h
              refine ⟨(hO.blk (.tail _ (.tail _ (.head _)))).wr (Nat.le_of_ble_eq_true rfl), ?_⟩
              intro H49 eH49
              replace hO := os2 (l' := encFold ({ z0 with all := false })) hO eH49 rfl
              refine ⟨z0.some, ((hO.blk (.tail _ (.tail _ (.head _)))).rdv rfl), ?_⟩
              refine ⟨fun w51 => ?_, fun w50 => ?_⟩
              · replace h := ifFb w51 h
                refine ⟨z2.n, ((hO.blk (.tail _ (.head _))).rdv rfl), ?_⟩
                refine ⟨(hO.blk (.tail _ (.tail _ (.head _)))).wr (Nat.le_of_ble_eq_true rfl), ?_⟩
                intro H52 eH52
                replace hO := os2 (l' := encFold ({ z0 with all := false, some := decide (z2.n = (1 : Int)) })) hO eH52 rfl
                refine ⟨{ z0 with all := false, some := decide (z2.n = (1 : Int)) }, (hO.blk (.tail _ (.tail _ (.head _)))).rowT rfl, ?_⟩
                refine ⟨(hO.blk (.head _)).wr (Nat.le_of_ble_eq_true rfl), ?_⟩
                intro H53 eH53
                replace hO := oz0 (l' := encFold ({ z0 with all := false, some := decide (z2.n = (1 : Int)) })) hO eH53 rfl
                refine ⟨{ z0 with all := false, some := decide (z2.n = (1 : Int)) }, (hO.blk (.head _)).rowT rfl, ?_⟩
                obtain rfl := Option.some.inj h
                exact hR _ (dr0 (dr0 (dr0 (hO))))

              · replace h := ifTb w50 h
                refine ⟨(hO.blk (.tail _ (.tail _ (.head _)))).wr (Nat.le_of_ble_eq_true rfl), ?_⟩
                intro H54 eH54
                replace hO := os2 (l' := encFold ({ z0 with all := false, some := true })) hO eH54 rfl
                refine ⟨{ z0 with all := false, some := true }, (hO.blk (.tail _ (.tail _ (.head _)))).rowT rfl, ?_⟩
                refine ⟨(hO.blk (.head _)).wr (Nat.le_of_ble_eq_true rfl), ?_⟩
                intro H55 eH55
                replace hO := oz0 (l' := encFold ({ z0 with all := false, some := true })) hO eH55 rfl
                refine ⟨{ z0 with all := false, some := true }, (hO.blk (.head _)).rowT rfl, ?_⟩
                obtain rfl := Option.some.inj h
                exact hR _ (dr0 (dr0 (dr0 (hO))))




        · replace h := ifFd w34 h
          refine ⟨z2.kind, ((hO.blk (.tail _ (.head _))).rdv rfl), ?_⟩
          refine ⟨fun w56 => ?_, fun w57 => ?_⟩
          · replace h := ifTd w56 h
            refine ⟨z0, (hO.blk (.tail _ (.tail _ (.head _)))).rowT rfl, ?_⟩
            refine ⟨(hO.blk (.head _)).wr (Nat.le_of_ble_eq_true rfl), ?_⟩
            intro H58 eH58
            replace hO := oz0 (l' := encFold z0) hO eH58 rfl
            refine ⟨z0, (hO.blk (.head _)).rowT rfl, ?_⟩
            obtain rfl := Option.some.inj h
            exact hR _ (dr0 (dr0 (dr0 (hO))))

          · replace h := ifFd w57 h
            refine ⟨z2.kind, ((hO.blk (.tail _ (.head _))).rdv rfl), ?_⟩
            refine ⟨fun w59 => ?_, fun w60 => ?_⟩
            · replace w59 := bnotT w59
              replace h := ifFd w59 h
              refine ⟨fun w61 => ?_, fun w62 => ?_⟩
              · replace w61 := bnotT w61
                replace h := ifFb w61 h
                refine c131 (5 : Int) _ rfl _ _ _ (fr0 hO) (fun H63 hO => ?_)
                replace hO := un0 hO
                refine ⟨(s131 (5 : Int)), rfl, ?_⟩
                refine ⟨(hO.blk (.tail _ (.tail _ (.head _)))).wr (Nat.le_of_ble_eq_true rfl), ?_⟩
                intro H64 eH64
                replace hO := oz2 (l' := encFold ({ z0 with bad := (s131 (5 : Int)) })) hO eH64 rfl
                refine ⟨{ z0 with bad := (s131 (5 : Int)) }, (hO.blk (.tail _ (.tail _ (.head _)))).rowT rfl, ?_⟩
                refine ⟨(hO.blk (.head _)).wr (Nat.le_of_ble_eq_true rfl), ?_⟩
                intro H65 eH65
                replace hO := oz0 (l' := encFold ({ z0 with bad := (s131 (5 : Int)) })) hO eH65 rfl
                refine ⟨{ z0 with bad := (s131 (5 : Int)) }, (hO.blk (.head _)).rowT rfl, ?_⟩
                obtain rfl := Option.some.inj h
                exact hR _ (dr0 (dr0 (dr0 (hO))))

              · replace w62 := bnotF w62
                replace h := ifTb w62 h
                refine ⟨z0, (hO.blk (.tail _ (.tail _ (.head _)))).rowT rfl, ?_⟩
                refine ⟨(hO.blk (.head _)).wr (Nat.le_of_ble_eq_true rfl), ?_⟩
                intro H66 eH66
                replace hO := oz0 (l' := encFold z0) hO eH66 rfl
                refine ⟨z0, (hO.blk (.head _)).rowT rfl, ?_⟩
                obtain rfl := Option.some.inj h
                exact hR _ (dr0 (dr0 (dr0 (hO))))


            · replace w60 := bnotF w60
              replace h := ifTd w60 h
              refine ⟨fun l Hc => ∃ t100 : FoldT, Own Hc [cellE 237 H22.size (encFold (⟨(⟨(0 : Int), (0 : Int), ([] : List UInt8)⟩ : ValT), (0 : Int), (0 : Int), (0 : Int), (0 : Int), false, false⟩ : FoldT)), cellE 94 H21.size (encVal z2), cellE 237 H.size (encFold t100)] F ∧ (k240_5 z2 t100) = some r_, ?_, ?_⟩
              · refine ⟨z0.count, ((hO.blk (.tail _ (.tail _ (.head _)))).rdv rfl), ?_⟩
                refine ⟨fun w130 => ?_, fun w129 => ?_⟩
                · replace h := ifFd w130 h
                  refine ⟨z2.n, ((hO.blk (.tail _ (.head _))).rdv rfl), ?_⟩
                  refine ⟨z0.min, ((hO.blk (.tail _ (.tail _ (.head _)))).rdv rfl), ?_⟩
                  refine ⟨fun w131 => ?_, fun w132 => ?_⟩
                  · replace h := ifTd w131 h
                    refine ⟨z2.n, ((hO.blk (.tail _ (.head _))).rdv rfl), ?_⟩
                    refine ⟨(hO.blk (.tail _ (.tail _ (.head _)))).wr (Nat.le_of_ble_eq_true rfl), ?_⟩
                    intro H133 eH133
                    replace hO := os2 (l' := encFold ({ z0 with min := z2.n })) hO eH133 rfl
                    exact ⟨({ z0 with min := z2.n }), hO, h⟩

                  · replace h := ifFd w132 h
                    exact ⟨z0, hO, h⟩


                · replace h := ifTd w129 h
                  refine ⟨z2.n, ((hO.blk (.tail _ (.head _))).rdv rfl), ?_⟩
                  refine ⟨(hO.blk (.tail _ (.tail _ (.head _)))).wr (Nat.le_of_ble_eq_true rfl), ?_⟩
                  intro H134 eH134
                  replace hO := os2 (l' := encFold ({ z0 with min := z2.n })) hO eH134 rfl
                  exact ⟨({ z0 with min := z2.n }), hO, h⟩


              · clear hO h
                intro H101 u102  hJ
                obtain ⟨t100, hO, h⟩ := hJ
                replace h : (k240_5 z2 t100) = some r_ := h
                unfold k240_5 at h
                refine ⟨fun l Hc => ∃ t115 : FoldT, Own Hc [cellE 237 H22.size (encFold (⟨(⟨(0 : Int), (0 : Int), ([] : List UInt8)⟩ : ValT), (0 : Int), (0 : Int), (0 : Int), (0 : Int), false, false⟩ : FoldT)), cellE 94 H21.size (encVal z2), cellE 237 H.size (encFold t115)] F ∧ (k240_4 z2 t115) = some r_, ?_, ?_⟩
                · refine ⟨t100.count, ((hO.blk (.tail _ (.tail _ (.head _)))).rdv rfl), ?_⟩
                  refine ⟨fun w124 => ?_, fun w123 => ?_⟩
                  · replace h := ifFd w124 h
                    refine ⟨z2.n, ((hO.blk (.tail _ (.head _))).rdv rfl), ?_⟩
                    refine ⟨t100.max, ((hO.blk (.tail _ (.tail _ (.head _)))).rdv rfl), ?_⟩
                    refine ⟨fun w125 => ?_, fun w126 => ?_⟩
                    · replace h := ifTd w125 h
                      refine ⟨z2.n, ((hO.blk (.tail _ (.head _))).rdv rfl), ?_⟩
                      refine ⟨(hO.blk (.tail _ (.tail _ (.head _)))).wr (Nat.le_of_ble_eq_true rfl), ?_⟩
                      intro H127 eH127
                      replace hO := os2 (l' := encFold ({ t100 with max := z2.n })) hO eH127 rfl
                      exact ⟨({ t100 with max := z2.n }), hO, h⟩

                    · replace h := ifFd w126 h
                      exact ⟨t100, hO, h⟩


                  · replace h := ifTd w123 h
                    refine ⟨z2.n, ((hO.blk (.tail _ (.head _))).rdv rfl), ?_⟩
                    refine ⟨(hO.blk (.tail _ (.tail _ (.head _)))).wr (Nat.le_of_ble_eq_true rfl), ?_⟩
                    intro H128 eH128
                    replace hO := os2 (l' := encFold ({ t100 with max := z2.n })) hO eH128 rfl
                    exact ⟨({ t100 with max := z2.n }), hO, h⟩


                · clear hO h
                  intro H116 u117  hJ
                  obtain ⟨t115, hO, h⟩ := hJ
                  replace h : (k240_4 z2 t115) = some r_ := h
                  unfold k240_4 at h
                  refine ⟨t115.sum, ((hO.blk (.tail _ (.tail _ (.head _)))).rdv rfl), ?_⟩
                  refine ⟨z2.n, ((hO.blk (.tail _ (.head _))).rdv rfl), ?_⟩
                  obtain ⟨q118, h⟩ := ckS h
                  refine ⟨_, .inl ⟨q118, rfl⟩, ?_⟩
                  refine ⟨(hO.blk (.tail _ (.tail _ (.head _)))).wr (Nat.le_of_ble_eq_true rfl), ?_⟩
                  intro H119 eH119
                  replace hO := os2 (l' := encFold ({ t115 with sum := t115.sum + z2.n })) hO eH119 rfl
                  refine ⟨t115.count, ((hO.blk (.tail _ (.tail _ (.head _)))).rdv rfl), ?_⟩
                  obtain ⟨q120, h⟩ := ckS h
                  refine ⟨_, .inl ⟨q120, rfl⟩, ?_⟩
                  refine ⟨(hO.blk (.tail _ (.tail _ (.head _)))).wr (Nat.le_of_ble_eq_true rfl), ?_⟩
                  intro H121 eH121
                  replace hO := os2 (l' := encFold ({ t115 with sum := t115.sum + z2.n, count := t115.count + (1 : Int) })) hO eH121 rfl
                  refine ⟨{ t115 with sum := t115.sum + z2.n, count := t115.count + (1 : Int) }, (hO.blk (.tail _ (.tail _ (.head _)))).rowT rfl, ?_⟩
                  refine ⟨(hO.blk (.head _)).wr (Nat.le_of_ble_eq_true rfl), ?_⟩
                  intro H122 eH122
                  replace hO := oz0 (l' := encFold ({ t115 with sum := t115.sum + z2.n, count := t115.count + (1 : Int) })) hO eH122 rfl
                  refine ⟨{ t115 with sum := t115.sum + z2.n, count := t115.count + (1 : Int) }, (hO.blk (.head _)).rowT rfl, ?_⟩
                  obtain rfl := Option.some.inj h
                  exact hR _ (dr0 (dr0 (dr0 (hO))))






      · replace h := ifTd w31 h
        refine ⟨z2.kind, ((hO.blk (.tail _ (.head _))).rdv rfl), ?_⟩
        refine ⟨fun w135 => ?_, fun w136 => ?_⟩
        · replace w135 := bnotT w135
          replace h := ifFd w135 h
          refine c131 (5 : Int) _ rfl _ _ _ (fr0 hO) (fun H137 hO => ?_)
          replace hO := un0 hO
          refine ⟨(s131 (5 : Int)), rfl, ?_⟩
          refine ⟨(hO.blk (.tail _ (.tail _ (.head _)))).wr (Nat.le_of_ble_eq_true rfl), ?_⟩
          intro H138 eH138
          replace hO := oz2 (l' := encFold ({ z0 with bad := (s131 (5 : Int)) })) hO eH138 rfl
          refine ⟨{ z0 with bad := (s131 (5 : Int)) }, (hO.blk (.tail _ (.tail _ (.head _)))).rowT rfl, ?_⟩
          refine ⟨(hO.blk (.head _)).wr (Nat.le_of_ble_eq_true rfl), ?_⟩
          intro H139 eH139
          replace hO := oz0 (l' := encFold ({ z0 with bad := (s131 (5 : Int)) })) hO eH139 rfl
          refine ⟨{ z0 with bad := (s131 (5 : Int)) }, (hO.blk (.head _)).rowT rfl, ?_⟩
          obtain rfl := Option.some.inj h
          exact hR _ (dr0 (dr0 (dr0 (hO))))

        · replace w136 := bnotF w136
          replace h := ifTd w136 h
          refine ⟨z0.all, ((hO.blk (.tail _ (.tail _ (.head _)))).rdv rfl), ?_⟩
          refine ⟨fun w140 => ?_, fun w141 => ?_⟩
          · replace h := ifTb w140 h
            refine ⟨z2.n, ((hO.blk (.tail _ (.head _))).rdv rfl), ?_⟩
            refine ⟨(hO.blk (.tail _ (.tail _ (.head _)))).wr (Nat.le_of_ble_eq_true rfl), ?_⟩
            intro H142 eH142
            replace hO := os2 (l' := encFold ({ z0 with all := decide (z2.n = (1 : Int)) })) hO eH142 rfl
            refine ⟨z0.some, ((hO.blk (.tail _ (.tail _ (.head _)))).rdv rfl), ?_⟩
            refine ⟨fun w144 => ?_, fun w143 => ?_⟩
            · replace h := ifFb w144 h
              refine ⟨z2.n, ((hO.blk (.tail _ (.head _))).rdv rfl), ?_⟩
              refine ⟨(hO.blk (.tail _ (.tail _ (.head _)))).wr (Nat.le_of_ble_eq_true rfl), ?_⟩
              intro H145 eH145
              replace hO := os2 (l' := encFold ({ z0 with all := decide (z2.n = (1 : Int)), some := decide (z2.n = (1 : Int)) })) hO eH145 rfl
              refine ⟨{ z0 with all := decide (z2.n = (1 : Int)), some := decide (z2.n = (1 : Int)) }, (hO.blk (.tail _ (.tail _ (.head _)))).rowT rfl, ?_⟩
              refine ⟨(hO.blk (.head _)).wr (Nat.le_of_ble_eq_true rfl), ?_⟩
              intro H146 eH146
              replace hO := oz0 (l' := encFold ({ z0 with all := decide (z2.n = (1 : Int)), some := decide (z2.n = (1 : Int)) })) hO eH146 rfl
              refine ⟨{ z0 with all := decide (z2.n = (1 : Int)), some := decide (z2.n = (1 : Int)) }, (hO.blk (.head _)).rowT rfl, ?_⟩
              obtain rfl := Option.some.inj h
              exact hR _ (dr0 (dr0 (dr0 (hO))))

            · replace h := ifTb w143 h
              refine ⟨(hO.blk (.tail _ (.tail _ (.head _)))).wr (Nat.le_of_ble_eq_true rfl), ?_⟩
              intro H147 eH147
              replace hO := os2 (l' := encFold ({ z0 with all := decide (z2.n = (1 : Int)), some := true })) hO eH147 rfl
              refine ⟨{ z0 with all := decide (z2.n = (1 : Int)), some := true }, (hO.blk (.tail _ (.tail _ (.head _)))).rowT rfl, ?_⟩
              refine ⟨(hO.blk (.head _)).wr (Nat.le_of_ble_eq_true rfl), ?_⟩
              intro H148 eH148
              replace hO := oz0 (l' := encFold ({ z0 with all := decide (z2.n = (1 : Int)), some := true })) hO eH148 rfl
              refine ⟨{ z0 with all := decide (z2.n = (1 : Int)), some := true }, (hO.blk (.head _)).rowT rfl, ?_⟩
              obtain rfl := Option.some.inj h
              exact hR _ (dr0 (dr0 (dr0 (hO))))


          · replace h := ifFb w141 h
            refine ⟨(hO.blk (.tail _ (.tail _ (.head _)))).wr (Nat.le_of_ble_eq_true rfl), ?_⟩
            intro H149 eH149
            replace hO := os2 (l' := encFold ({ z0 with all := false })) hO eH149 rfl
            refine ⟨z0.some, ((hO.blk (.tail _ (.tail _ (.head _)))).rdv rfl), ?_⟩
            refine ⟨fun w151 => ?_, fun w150 => ?_⟩
            · replace h := ifFb w151 h
              refine ⟨z2.n, ((hO.blk (.tail _ (.head _))).rdv rfl), ?_⟩
              refine ⟨(hO.blk (.tail _ (.tail _ (.head _)))).wr (Nat.le_of_ble_eq_true rfl), ?_⟩
              intro H152 eH152
              replace hO := os2 (l' := encFold ({ z0 with all := false, some := decide (z2.n = (1 : Int)) })) hO eH152 rfl
              refine ⟨{ z0 with all := false, some := decide (z2.n = (1 : Int)) }, (hO.blk (.tail _ (.tail _ (.head _)))).rowT rfl, ?_⟩
              refine ⟨(hO.blk (.head _)).wr (Nat.le_of_ble_eq_true rfl), ?_⟩
              intro H153 eH153
              replace hO := oz0 (l' := encFold ({ z0 with all := false, some := decide (z2.n = (1 : Int)) })) hO eH153 rfl
              refine ⟨{ z0 with all := false, some := decide (z2.n = (1 : Int)) }, (hO.blk (.head _)).rowT rfl, ?_⟩
              obtain rfl := Option.some.inj h
              exact hR _ (dr0 (dr0 (dr0 (hO))))

            · replace h := ifTb w150 h
              refine ⟨(hO.blk (.tail _ (.tail _ (.head _)))).wr (Nat.le_of_ble_eq_true rfl), ?_⟩
              intro H154 eH154
              replace hO := os2 (l' := encFold ({ z0 with all := false, some := true })) hO eH154 rfl
              refine ⟨{ z0 with all := false, some := true }, (hO.blk (.tail _ (.tail _ (.head _)))).rowT rfl, ?_⟩
              refine ⟨(hO.blk (.head _)).wr (Nat.le_of_ble_eq_true rfl), ?_⟩
              intro H155 eH155
              replace hO := oz0 (l' := encFold ({ z0 with all := false, some := true })) hO eH155 rfl
              refine ⟨{ z0 with all := false, some := true }, (hO.blk (.head _)).rowT rfl, ?_⟩
              obtain rfl := Option.some.inj h
              exact hR _ (dr0 (dr0 (dr0 (hO))))








theorem c230 (z0 : FoldT) (z1 : Int) (r_ : ValT) (h : s230 z0 z1 = r_) (F : List Ent) (H : Heap) (R : Value → Heap → Prop)
    (hO : Own H [] F)
    (hR : ∀ (H' : Heap) , Own H' [] F → R (.agg ⟨encVal r_⟩) H') :
    HCalls Tryz.prog 230 #[Value.agg ⟨encFold z0⟩, I z1] H R := by
  refine vc230 z0 z1 H R ?_
  unfold s230 at h
  intro H21 eH21
  replace hO := own_new (l := encFold z0) hO eH21 rfl
  intro H22 eH22
  replace hO := own_new (l := encVal (⟨(0 : Int), (0 : Int), ([] : List UInt8)⟩ : ValT)) hO eH22 rfl
  refine ⟨z0.bad.kind, ((hO.blk (.tail _ (.head _))).rdv rfl), ?_⟩
  refine ⟨fun w23 => ?_, fun w24 => ?_⟩
  · replace h := ifTd w23 h
    refine ⟨z0.bad, (hO.blk (.tail _ (.head _))).rowT rfl, ?_⟩
    refine ⟨(hO.blk (.head _)).wr (Nat.le_of_ble_eq_true rfl), ?_⟩
    intro H25 eH25
    replace hO := oz0 (l' := encVal z0.bad) hO eH25 rfl
    refine ⟨z0.bad, (hO.blk (.head _)).rowT rfl, ?_⟩
    subst h
    exact hR _ (dr0 (dr0 (hO)))

  · replace h := ifFd w24 h
    refine ⟨fun w26 => ?_, fun w27 => ?_⟩
    · replace h := ifTd w26 h
      refine ⟨z0.sum, ((hO.blk (.tail _ (.head _))).rdv rfl), ?_⟩
      refine c238 z0.sum _ rfl _ _ _ (fr0 hO) (fun H28 hO => ?_)
      replace hO := un0 hO
      refine ⟨(s238 z0.sum), rfl, ?_⟩
      refine ⟨(hO.blk (.head _)).wr (Nat.le_of_ble_eq_true rfl), ?_⟩
      intro H29 eH29
      replace hO := oz0 (l' := encVal (s238 z0.sum)) hO eH29 rfl
      refine ⟨(s238 z0.sum), (hO.blk (.head _)).rowT rfl, ?_⟩
      subst h
      exact hR _ (dr0 (dr0 (hO)))

    · replace h := ifFd w27 h
      refine ⟨fun w30 => ?_, fun w31 => ?_⟩
      · replace h := ifTd w30 h
        refine ⟨z0.min, ((hO.blk (.tail _ (.head _))).rdv rfl), ?_⟩
        refine c200 z0.min _ rfl _ _ _ (fr0 hO) (fun H32 hO => ?_)
        replace hO := un0 hO
        refine ⟨(s200 z0.min), rfl, ?_⟩
        refine ⟨(hO.blk (.head _)).wr (Nat.le_of_ble_eq_true rfl), ?_⟩
        intro H33 eH33
        replace hO := oz0 (l' := encVal (s200 z0.min)) hO eH33 rfl
        refine ⟨(s200 z0.min), (hO.blk (.head _)).rowT rfl, ?_⟩
        subst h
        exact hR _ (dr0 (dr0 (hO)))

      · replace h := ifFd w31 h
        refine ⟨fun w34 => ?_, fun w35 => ?_⟩
        · replace h := ifTd w34 h
          refine ⟨z0.max, ((hO.blk (.tail _ (.head _))).rdv rfl), ?_⟩
          refine c200 z0.max _ rfl _ _ _ (fr0 hO) (fun H36 hO => ?_)
          replace hO := un0 hO
          refine ⟨(s200 z0.max), rfl, ?_⟩
          refine ⟨(hO.blk (.head _)).wr (Nat.le_of_ble_eq_true rfl), ?_⟩
          intro H37 eH37
          replace hO := oz0 (l' := encVal (s200 z0.max)) hO eH37 rfl
          refine ⟨(s200 z0.max), (hO.blk (.head _)).rowT rfl, ?_⟩
          subst h
          exact hR _ (dr0 (dr0 (hO)))

        · replace h := ifFd w35 h
          refine ⟨fun w38 => ?_, fun w39 => ?_⟩
          · replace h := ifTd w38 h
            refine ⟨z0.count, ((hO.blk (.tail _ (.head _))).rdv rfl), ?_⟩
            refine c200 z0.count _ rfl _ _ _ (fr0 hO) (fun H40 hO => ?_)
            replace hO := un0 hO
            refine ⟨(s200 z0.count), rfl, ?_⟩
            refine ⟨(hO.blk (.head _)).wr (Nat.le_of_ble_eq_true rfl), ?_⟩
            intro H41 eH41
            replace hO := oz0 (l' := encVal (s200 z0.count)) hO eH41 rfl
            refine ⟨(s200 z0.count), (hO.blk (.head _)).rowT rfl, ?_⟩
            subst h
            exact hR _ (dr0 (dr0 (hO)))

          · replace h := ifFd w39 h
            refine ⟨fun w42 => ?_, fun w43 => ?_⟩
            · replace h := ifTd w42 h
              refine ⟨z0.all, ((hO.blk (.tail _ (.head _))).rdv rfl), ?_⟩
              refine c232 z0.all _ rfl _ _ _ (fr0 hO) (fun H44 hO => ?_)
              replace hO := un0 hO
              refine ⟨(s232 z0.all), rfl, ?_⟩
              refine ⟨(hO.blk (.head _)).wr (Nat.le_of_ble_eq_true rfl), ?_⟩
              intro H45 eH45
              replace hO := oz0 (l' := encVal (s232 z0.all)) hO eH45 rfl
              refine ⟨(s232 z0.all), (hO.blk (.head _)).rowT rfl, ?_⟩
              subst h
              exact hR _ (dr0 (dr0 (hO)))

            · replace h := ifFd w43 h
              refine ⟨z0.some, ((hO.blk (.tail _ (.head _))).rdv rfl), ?_⟩
              refine c232 z0.some _ rfl _ _ _ (fr0 hO) (fun H46 hO => ?_)
              replace hO := un0 hO
              refine ⟨(s232 z0.some), rfl, ?_⟩
              refine ⟨(hO.blk (.head _)).wr (Nat.le_of_ble_eq_true rfl), ?_⟩
              intro H47 eH47
              replace hO := oz0 (l' := encVal (s232 z0.some)) hO eH47 rfl
              refine ⟨(s232 z0.some), (hO.blk (.head _)).rowT rfl, ?_⟩
              subst h
              exact hR _ (dr0 (dr0 (hO)))








theorem c204_b (n_ : Nat) (rec_204 : (List NodeT) → Nat → Int → (List ValT) → Nat → Option ValT) (rec_229 : (List NodeT) → Nat → Int → Int → (List ValT) → Nat → Option FoldT) (ih_204 : K204 rec_204) (ih_229 : K229 rec_229) (b0 : Nat) (a0 : List NodeT) (m0 c0 : Nat) (z1 : Int) (b2 : Nat) (a2 : List ValT) (m2 c2 : Nat) (r_ : ValT) (h : s204_b n_ rec_204 rec_229 a0 m0 z1 a2 m2 = some r_) (F : List Ent) (H : Heap) (R : Value → Heap → Prop)
    (hO : Own H [cellE 153 b0 (List.flatMap encNode a0), cellE 94 b2 (List.flatMap encVal a2)] F)
    (hR : ∀ (H' : Heap) , Own H' [cellE 153 b0 (List.flatMap encNode a0), cellE 94 b2 (List.flatMap encVal a2)] F → R (.agg ⟨encVal r_⟩) H') :
    HCalls Tryz.prog 204 #[Value.slice (some ⟨b0, 0, none⟩) m0 c0, I z1, Value.slice (some ⟨b2, 0, none⟩) m2 c2] H R := by
  refine vc204 (some ⟨b0, 0, none⟩) m0 c0 z1 (some ⟨b2, 0, none⟩) m2 c2 H R ?_
  unfold s204_b at h
  intro H21 eH21
  replace hO := own_new (l := encVal (⟨(0 : Int), (0 : Int), ([] : List UInt8)⟩ : ValT)) hO eH21 rfl
  obtain ⟨x22, g23, h⟩ := getS h
  refine ⟨_, _, rfl, g23.1, g23.2.1, rfl, ?_⟩
  refine ⟨x22, (hO.arr (.tail _ (.head _))).row (i := Int.toNat z1) lenNode g23.2.2 (Nat.zero_add _), ?_⟩
  intro H24 eH24
  replace hO := own_new (l := encNode (⟨(0 : Int), (0 : Int), (0 : Int), (0 : Int), (0 : Int), (⟨(0 : Int), (0 : Int), false, false⟩ : RefT), (⟨(0 : Int), (0 : Int), false, false⟩ : RefT)⟩ : NodeT)) hO eH24 rfl
  refine ⟨(hO.blk (.head _)).wr (Nat.le_of_ble_eq_true rfl), ?_⟩
  intro H25 eH25
  replace hO := oz0 (l' := encNode x22) hO eH25 rfl
  refine ⟨x22.kind, ((hO.blk (.head _)).rdv rfl), ?_⟩
  refine ⟨fun w26 => ?_, fun w27 => ?_⟩
  · replace h := ifTd w26 h
    refine ⟨x22.n, ((hO.blk (.head _)).rdv rfl), ?_⟩
    refine c200 x22.n _ rfl _ _ _ (fr0 hO) (fun H28 hO => ?_)
    replace hO := un0 hO
    refine ⟨(s200 x22.n), rfl, ?_⟩
    refine ⟨(hO.blk (.tail _ (.head _))).wr (Nat.le_of_ble_eq_true rfl), ?_⟩
    intro H29 eH29
    replace hO := oz1 (l' := encVal (s200 x22.n)) hO eH29 rfl
    refine ⟨(s200 x22.n), (hO.blk (.tail _ (.head _))).rowT rfl, ?_⟩
    obtain rfl := Option.some.inj h
    exact hR _ (dr2 (dr2 (pu3 (pu3 hO))))

  · replace h := ifFd w27 h
    refine ⟨fun w30 => ?_, fun w31 => ?_⟩
    · replace h := ifTd w30 h
      refine ⟨x22.n, ((hO.blk (.head _)).rdv rfl), ?_⟩
      refine ⟨(hO.blk (.tail _ (.head _))).wr (Nat.le_of_ble_eq_true rfl), ?_⟩
      intro H32 eH32
      replace hO := oz1 (l' := encVal (⟨(3 : Int), x22.n, ([] : List UInt8)⟩ : ValT)) hO eH32 rfl
      refine ⟨(⟨(3 : Int), x22.n, ([] : List UInt8)⟩ : ValT), (hO.blk (.tail _ (.head _))).rowT rfl, ?_⟩
      obtain rfl := Option.some.inj h
      exact hR _ (dr2 (dr2 (pu3 (pu3 hO))))

    · replace h := ifFd w31 h
      refine ⟨fun w33 => ?_, fun w34 => ?_⟩
      · replace h := ifTd w33 h
        refine ⟨x22.r1, (hO.blk (.head _)).rowT rfl, ?_⟩
        refine c116 x22.r1 _ rfl _ _ _ (fr0 hO) (fun H35 hO => ?_)
        replace hO := un0 hO
        refine ⟨(s116 x22.r1), rfl, ?_⟩
        refine ⟨fun w36 => ?_, fun w37 => ?_⟩
        · replace w36 := bnotT w36
          replace h := ifFb w36 h
          refine c131 (2 : Int) _ rfl _ _ _ (fr0 hO) (fun H38 hO => ?_)
          replace hO := un0 hO
          refine ⟨(s131 (2 : Int)), rfl, ?_⟩
          refine ⟨(hO.blk (.tail _ (.head _))).wr (Nat.le_of_ble_eq_true rfl), ?_⟩
          intro H39 eH39
          replace hO := oz1 (l' := encVal (s131 (2 : Int))) hO eH39 rfl
          refine ⟨(s131 (2 : Int)), (hO.blk (.tail _ (.head _))).rowT rfl, ?_⟩
          obtain rfl := Option.some.inj h
          exact hR _ (dr2 (dr2 (pu3 (pu3 hO))))

        · replace w37 := bnotF w37
          replace h := ifTb w37 h
          refine ⟨x22.r1, (hO.blk (.head _)).rowT rfl, ?_⟩
          obtain ⟨r40, e41, h⟩ := bindS h
          refine c217 x22.r1 r40 e41 _ _ _ (fr0 hO) (fun H42 hO => ?_)
          replace hO := un0 hO
          refine ⟨r40, rfl, ?_⟩
          obtain ⟨x43, g44, h⟩ := getS h
          refine ⟨_, _, rfl, g44.1, g44.2.1, rfl, ?_⟩
          refine ⟨x43, (hO.arr (.tail _ (.tail _ (.tail _ (.head _))))).row (i := Int.toNat r40) lenVal g44.2.2 (Nat.zero_add _), ?_⟩
          refine ⟨(hO.blk (.tail _ (.head _))).wr (Nat.le_of_ble_eq_true rfl), ?_⟩
          intro H45 eH45
          replace hO := oz1 (l' := encVal x43) hO eH45 rfl
          refine ⟨x43, (hO.blk (.tail _ (.head _))).rowT rfl, ?_⟩
          obtain rfl := Option.some.inj h
          exact hR _ (dr2 (dr2 (pu3 (pu3 hO))))


      · replace h := ifFd w34 h
        refine ⟨fun w46 => ?_, fun w47 => ?_⟩
        · replace h := ifTd w46 h
          refine ⟨x22.a, ((hO.blk (.head _)).rdv rfl), ?_⟩
          obtain ⟨r48, e49, h⟩ := bindS h
          refine ih_204 b0 a0 m0 c0 x22.a b2 a2 m2 c2 r48 e49 _ _ _ (fr2 (pu3 (pu3 hO))) (fun H50 hO => ?_)
          replace hO := un2 hO
          refine ⟨r48, rfl, ?_⟩
          intro H51 eH51
          replace hO := own_new (l := encVal (⟨(0 : Int), (0 : Int), ([] : List UInt8)⟩ : ValT)) hO eH51 rfl
          refine ⟨(hO.blk (.head _)).wr (Nat.le_of_ble_eq_true rfl), ?_⟩
          intro H52 eH52
          replace hO := oz0 (l' := encVal r48) hO eH52 rfl
          refine ⟨r48, (hO.blk (.head _)).rowT rfl, ?_⟩
          obtain ⟨r53, e54, h⟩ := bindS h
          refine c226 (0 : Int) r48 r53 e54 _ _ _ (fr0 hO) (fun H55 hO => ?_)
          replace hO := un0 hO
          refine ⟨r53, rfl, ?_⟩
          refine ⟨(hO.blk (.tail _ (.tail _ (.tail _ (.tail _ (.head _)))))).wr (Nat.le_of_ble_eq_true rfl), ?_⟩
          intro H56 eH56
          replace hO := oz4 (l' := encVal r53) hO eH56 rfl
          refine ⟨r53, (hO.blk (.tail _ (.tail _ (.tail _ (.tail _ (.head _)))))).rowT rfl, ?_⟩
          obtain rfl := Option.some.inj h
          exact hR _ (dr2 (dr2 (dr2 (pu2 (pu2 hO)))))

        · replace h := ifFd w47 h
          refine ⟨fun w57 => ?_, fun w58 => ?_⟩
          · replace h := ifTd w57 h
            refine ⟨x22.a, ((hO.blk (.head _)).rdv rfl), ?_⟩
            obtain ⟨r59, e60, h⟩ := bindS h
            refine ih_204 b0 a0 m0 c0 x22.a b2 a2 m2 c2 r59 e60 _ _ _ (fr2 (pu3 (pu3 hO))) (fun H61 hO => ?_)
            replace hO := un2 hO
            refine ⟨r59, rfl, ?_⟩
            intro H62 eH62
            replace hO := own_new (l := encVal (⟨(0 : Int), (0 : Int), ([] : List UInt8)⟩ : ValT)) hO eH62 rfl
            refine ⟨(hO.blk (.head _)).wr (Nat.le_of_ble_eq_true rfl), ?_⟩
            intro H63 eH63
            replace hO := oz0 (l' := encVal r59) hO eH63 rfl
            refine ⟨x22.b, ((hO.blk (.tail _ (.tail _ (.tail _ (.head _))))).rdv rfl), ?_⟩
            obtain ⟨r64, e65, h⟩ := bindS h
            refine ih_204 b0 a0 m0 c0 x22.b b2 a2 m2 c2 r64 e65 _ _ _ (fr2 (pu2 (pu2 hO))) (fun H66 hO => ?_)
            replace hO := un2 hO
            refine ⟨r64, rfl, ?_⟩
            intro H67 eH67
            replace hO := own_new (l := encVal (⟨(0 : Int), (0 : Int), ([] : List UInt8)⟩ : ValT)) hO eH67 rfl
            refine ⟨(hO.blk (.head _)).wr (Nat.le_of_ble_eq_true rfl), ?_⟩
            intro H68 eH68
            replace hO := oz0 (l' := encVal r64) hO eH68 rfl
            refine ⟨x22.op, ((hO.blk (.tail _ (.tail _ (.tail _ (.tail _ (.head _)))))).rdv rfl), ?_⟩
            refine ⟨r59, (hO.blk (.tail _ (.tail _ (.tail _ (.head _))))).rowT rfl, ?_⟩
            refine ⟨r64, (hO.blk (.head _)).rowT rfl, ?_⟩
            obtain ⟨r69, e70, h⟩ := bindS h
            refine c227 x22.op r59 r64 r69 e70 _ _ _ (fr0 hO) (fun H71 hO => ?_)
            replace hO := un0 hO
            refine ⟨r69, rfl, ?_⟩
            refine ⟨(hO.blk (.tail _ (.tail _ (.tail _ (.tail _ (.tail _ (.head _))))))).wr (Nat.le_of_ble_eq_true rfl), ?_⟩
            intro H72 eH72
            replace hO := oz5 (l' := encVal r69) hO eH72 rfl
            refine ⟨r69, (hO.blk (.tail _ (.tail _ (.tail _ (.tail _ (.tail _ (.head _))))))).rowT rfl, ?_⟩
            obtain rfl := Option.some.inj h
            exact hR _ (dr2 (dr2 (dr2 (dr2 (pu2 (pu2 hO))))))

          · replace h := ifFd w58 h
            refine ⟨fun w73 => ?_, fun w74 => ?_⟩
            · replace h := ifTd w73 h
              refine ⟨x22.op, ((hO.blk (.head _)).rdv rfl), ?_⟩
              refine ⟨fun w75 => ?_, fun w76 => ?_⟩
              · replace h := ifTd w75 h
                refine ⟨x22.a, ((hO.blk (.head _)).rdv rfl), ?_⟩
                obtain ⟨x77, g78, h⟩ := getS h
                refine ⟨_, _, rfl, g78.1, g78.2.1, rfl, ?_⟩
                refine ⟨x77, (hO.arr (.tail _ (.tail _ (.head _)))).row (i := Int.toNat x22.a) lenNode g78.2.2 (Nat.zero_add _), ?_⟩
                intro H79 eH79
                replace hO := own_new (l := encNode (⟨(0 : Int), (0 : Int), (0 : Int), (0 : Int), (0 : Int), (⟨(0 : Int), (0 : Int), false, false⟩ : RefT), (⟨(0 : Int), (0 : Int), false, false⟩ : RefT)⟩ : NodeT)) hO eH79 rfl
                refine ⟨(hO.blk (.head _)).wr (Nat.le_of_ble_eq_true rfl), ?_⟩
                intro H80 eH80
                replace hO := oz0 (l' := encNode x77) hO eH80 rfl
                refine ⟨x77.b, ((hO.blk (.head _)).rdv rfl), ?_⟩
                obtain ⟨x81, g82, h⟩ := getS h
                refine ⟨_, _, rfl, g82.1, g82.2.1, rfl, ?_⟩
                refine ⟨x81, (hO.arr (.tail _ (.tail _ (.tail _ (.head _))))).row (i := Int.toNat x77.b) lenNode g82.2.2 (Nat.zero_add _), ?_⟩
                intro H83 eH83
                replace hO := own_new (l := encNode (⟨(0 : Int), (0 : Int), (0 : Int), (0 : Int), (0 : Int), (⟨(0 : Int), (0 : Int), false, false⟩ : RefT), (⟨(0 : Int), (0 : Int), false, false⟩ : RefT)⟩ : NodeT)) hO eH83 rfl
                refine ⟨(hO.blk (.head _)).wr (Nat.le_of_ble_eq_true rfl), ?_⟩
                intro H84 eH84
                replace hO := oz0 (l' := encNode x81) hO eH84 rfl
                refine ⟨x81.b, ((hO.blk (.head _)).rdv rfl), ?_⟩
                obtain ⟨x85, g86, h⟩ := getS h
                refine ⟨_, _, rfl, g86.1, g86.2.1, rfl, ?_⟩
                refine ⟨x85, (hO.arr (.tail _ (.tail _ (.tail _ (.tail _ (.head _)))))).row (i := Int.toNat x81.b) lenNode g86.2.2 (Nat.zero_add _), ?_⟩
                intro H87 eH87
                replace hO := own_new (l := encNode (⟨(0 : Int), (0 : Int), (0 : Int), (0 : Int), (0 : Int), (⟨(0 : Int), (0 : Int), false, false⟩ : RefT), (⟨(0 : Int), (0 : Int), false, false⟩ : RefT)⟩ : NodeT)) hO eH87 rfl
                refine ⟨(hO.blk (.head _)).wr (Nat.le_of_ble_eq_true rfl), ?_⟩
                intro H88 eH88
                replace hO := oz0 (l' := encNode x85) hO eH88 rfl
                refine ⟨x85.a, ((hO.blk (.head _)).rdv rfl), ?_⟩
                obtain ⟨r89, e90, h⟩ := bindS h
                refine ih_204 b0 a0 m0 c0 x85.a b2 a2 m2 c2 r89 e90 _ _ _ (fr2 (pu6 (pu6 hO))) (fun H91 hO => ?_)
                replace hO := un2 hO
                refine ⟨r89, rfl, ?_⟩
                intro H92 eH92
                replace hO := own_new (l := encVal (⟨(0 : Int), (0 : Int), ([] : List UInt8)⟩ : ValT)) hO eH92 rfl
                refine ⟨(hO.blk (.head _)).wr (Nat.le_of_ble_eq_true rfl), ?_⟩
                intro H93 eH93
                replace hO := oz0 (l' := encVal r89) hO eH93 rfl
                refine ⟨x81.a, ((hO.blk (.tail _ (.tail _ (.tail _ (.tail _ (.head _)))))).rdv rfl), ?_⟩
                obtain ⟨r94, e95, h⟩ := bindS h
                refine ih_204 b0 a0 m0 c0 x81.a b2 a2 m2 c2 r94 e95 _ _ _ (fr2 (pu2 (pu2 hO))) (fun H96 hO => ?_)
                replace hO := un2 hO
                refine ⟨r94, rfl, ?_⟩
                intro H97 eH97
                replace hO := own_new (l := encVal (⟨(0 : Int), (0 : Int), ([] : List UInt8)⟩ : ValT)) hO eH97 rfl
                refine ⟨(hO.blk (.head _)).wr (Nat.le_of_ble_eq_true rfl), ?_⟩
                intro H98 eH98
                replace hO := oz0 (l' := encVal r94) hO eH98 rfl
                refine ⟨x77.a, ((hO.blk (.tail _ (.tail _ (.tail _ (.tail _ (.tail _ (.tail _ (.head _)))))))).rdv rfl), ?_⟩
                obtain ⟨r99, e100, h⟩ := bindS h
                refine ih_204 b0 a0 m0 c0 x77.a b2 a2 m2 c2 r99 e100 _ _ _ (fr2 (pu2 (pu2 hO))) (fun H101 hO => ?_)
                replace hO := un2 hO
                refine ⟨r99, rfl, ?_⟩
                intro H102 eH102
                replace hO := own_new (l := encVal (⟨(0 : Int), (0 : Int), ([] : List UInt8)⟩ : ValT)) hO eH102 rfl
                refine ⟨(hO.blk (.head _)).wr (Nat.le_of_ble_eq_true rfl), ?_⟩
                intro H103 eH103
                replace hO := oz0 (l' := encVal r99) hO eH103 rfl
                refine ⟨r89, (hO.blk (.tail _ (.tail _ (.tail _ (.tail _ (.head _)))))).rowT rfl, ?_⟩
                refine ⟨r94, (hO.blk (.tail _ (.tail _ (.tail _ (.head _))))).rowT rfl, ?_⟩
                refine ⟨r99, (hO.blk (.head _)).rowT rfl, ?_⟩
                refine c228 r89 r94 r99 _ rfl _ _ _ (fr0 hO) (fun H104 hO => ?_)
                replace hO := un0 hO
                refine ⟨(s228 r89 r94 r99), rfl, ?_⟩
                refine ⟨(hO.blk (.tail _ (.tail _ (.tail _ (.tail _ (.tail _ (.tail _ (.tail _ (.tail _ (.tail _ (.head _))))))))))).wr (Nat.le_of_ble_eq_true rfl), ?_⟩
                intro H105 eH105
                replace hO := oz9 (l' := encVal (s228 r89 r94 r99)) hO eH105 rfl
                refine ⟨(s228 r89 r94 r99), (hO.blk (.tail _ (.tail _ (.tail _ (.tail _ (.tail _ (.tail _ (.tail _ (.tail _ (.tail _ (.head _))))))))))).rowT rfl, ?_⟩
                obtain rfl := Option.some.inj h
                exact hR _ (dr2 (dr2 (dr2 (dr2 (dr2 (dr2 (dr2 (dr2 (pu2 (pu2 hO))))))))))

              · replace h := ifFd w76 h
                refine ⟨x22.op, ((hO.blk (.head _)).rdv rfl), ?_⟩
                refine ⟨fun w107 => ?_, fun w106 => ?_⟩
                · replace h := ifFd w107 h
                  refine ⟨x22.op, ((hO.blk (.head _)).rdv rfl), ?_⟩
                  refine ⟨fun w109 => ?_, fun w108 => ?_⟩
                  · replace h := ifFd w109 h
                    refine ⟨x22.op, ((hO.blk (.head _)).rdv rfl), ?_⟩
                    refine ⟨fun w110 => ?_, fun w111 => ?_⟩
                    · replace h := ifTd w110 h
                      refine ⟨x22.a, ((hO.blk (.head _)).rdv rfl), ?_⟩
                      obtain ⟨x112, g113, h⟩ := getS h
                      refine ⟨_, _, rfl, g113.1, g113.2.1, rfl, ?_⟩
                      refine ⟨x112.a, ((hO.arr (.tail _ (.tail _ (.head _)))).rd (i := Int.toNat x22.a) (j := 2) lenNode g113.2.2 (by decide) (zo _ 2) rfl), ?_⟩
                      obtain ⟨r114, e115, h⟩ := bindS h
                      refine ih_204 b0 a0 m0 c0 x112.a b2 a2 m2 c2 r114 e115 _ _ _ (fr2 (pu3 (pu3 hO))) (fun H116 hO => ?_)
                      replace hO := un2 hO
                      refine ⟨r114, rfl, ?_⟩
                      intro H117 eH117
                      replace hO := own_new (l := encVal (⟨(0 : Int), (0 : Int), ([] : List UInt8)⟩ : ValT)) hO eH117 rfl
                      refine ⟨(hO.blk (.head _)).wr (Nat.le_of_ble_eq_true rfl), ?_⟩
                      intro H118 eH118
                      replace hO := oz0 (l' := encVal r114) hO eH118 rfl
                      refine ⟨x22.op, ((hO.blk (.tail _ (.tail _ (.tail _ (.head _))))).rdv rfl), ?_⟩
                      refine ⟨r114, (hO.blk (.head _)).rowT rfl, ?_⟩
                      obtain ⟨r119, e120, h⟩ := bindS h
                      refine c226 x22.op r114 r119 e120 _ _ _ (fr0 hO) (fun H121 hO => ?_)
                      replace hO := un0 hO
                      refine ⟨r119, rfl, ?_⟩
                      refine ⟨(hO.blk (.tail _ (.tail _ (.tail _ (.tail _ (.head _)))))).wr (Nat.le_of_ble_eq_true rfl), ?_⟩
                      intro H122 eH122
                      replace hO := oz4 (l' := encVal r119) hO eH122 rfl
                      refine ⟨r119, (hO.blk (.tail _ (.tail _ (.tail _ (.tail _ (.head _)))))).rowT rfl, ?_⟩
                      obtain rfl := Option.some.inj h
                      exact hR _ (dr2 (dr2 (dr2 (pu2 (pu2 hO)))))

                    · replace h := ifFd w111 h
                      refine ⟨x22.a, ((hO.blk (.head _)).rdv rfl), ?_⟩
                      refine ⟨x22.op, ((hO.blk (.head _)).rdv rfl), ?_⟩
                      obtain ⟨r123, e124, h⟩ := bindS h
                      refine ih_229 b0 a0 m0 c0 x22.a x22.op b2 a2 m2 c2 r123 e124 _ _ _ (fr2 (pu3 (pu3 hO))) (fun H125 hO => ?_)
                      replace hO := un2 hO
                      refine ⟨r123, rfl, ?_⟩
                      intro H126 eH126
                      replace hO := own_new (l := encFold (⟨(⟨(0 : Int), (0 : Int), ([] : List UInt8)⟩ : ValT), (0 : Int), (0 : Int), (0 : Int), (0 : Int), false, false⟩ : FoldT)) hO eH126 rfl
                      refine ⟨(hO.blk (.head _)).wr (Nat.le_of_ble_eq_true rfl), ?_⟩
                      intro H127 eH127
                      replace hO := oz0 (l' := encFold r123) hO eH127 rfl
                      refine ⟨r123, (hO.blk (.head _)).rowT rfl, ?_⟩
                      refine ⟨x22.op, ((hO.blk (.tail _ (.tail _ (.tail _ (.head _))))).rdv rfl), ?_⟩
                      refine c230 r123 x22.op _ rfl _ _ _ (fr0 hO) (fun H128 hO => ?_)
                      replace hO := un0 hO
                      refine ⟨(s230 r123 x22.op), rfl, ?_⟩
                      refine ⟨(hO.blk (.tail _ (.tail _ (.tail _ (.tail _ (.head _)))))).wr (Nat.le_of_ble_eq_true rfl), ?_⟩
                      intro H129 eH129
                      replace hO := oz4 (l' := encVal (s230 r123 x22.op)) hO eH129 rfl
                      refine ⟨(s230 r123 x22.op), (hO.blk (.tail _ (.tail _ (.tail _ (.tail _ (.head _)))))).rowT rfl, ?_⟩
                      obtain rfl := Option.some.inj h
                      exact hR _ (dr2 (dr2 (dr2 (pu2 (pu2 hO)))))


                  · replace h := ifTd w108 h
                    refine ⟨x22.a, ((hO.blk (.head _)).rdv rfl), ?_⟩
                    obtain ⟨x130, g131, h⟩ := getS h
                    refine ⟨_, _, rfl, g131.1, g131.2.1, rfl, ?_⟩
                    refine ⟨x130.a, ((hO.arr (.tail _ (.tail _ (.head _)))).rd (i := Int.toNat x22.a) (j := 2) lenNode g131.2.2 (by decide) (zo _ 2) rfl), ?_⟩
                    obtain ⟨r132, e133, h⟩ := bindS h
                    refine ih_204 b0 a0 m0 c0 x130.a b2 a2 m2 c2 r132 e133 _ _ _ (fr2 (pu3 (pu3 hO))) (fun H134 hO => ?_)
                    replace hO := un2 hO
                    refine ⟨r132, rfl, ?_⟩
                    intro H135 eH135
                    replace hO := own_new (l := encVal (⟨(0 : Int), (0 : Int), ([] : List UInt8)⟩ : ValT)) hO eH135 rfl
                    refine ⟨(hO.blk (.head _)).wr (Nat.le_of_ble_eq_true rfl), ?_⟩
                    intro H136 eH136
                    replace hO := oz0 (l' := encVal r132) hO eH136 rfl
                    refine ⟨x22.op, ((hO.blk (.tail _ (.tail _ (.tail _ (.head _))))).rdv rfl), ?_⟩
                    refine ⟨r132, (hO.blk (.head _)).rowT rfl, ?_⟩
                    obtain ⟨r137, e138, h⟩ := bindS h
                    refine c226 x22.op r132 r137 e138 _ _ _ (fr0 hO) (fun H139 hO => ?_)
                    replace hO := un0 hO
                    refine ⟨r137, rfl, ?_⟩
                    refine ⟨(hO.blk (.tail _ (.tail _ (.tail _ (.tail _ (.head _)))))).wr (Nat.le_of_ble_eq_true rfl), ?_⟩
                    intro H140 eH140
                    replace hO := oz4 (l' := encVal r137) hO eH140 rfl
                    refine ⟨r137, (hO.blk (.tail _ (.tail _ (.tail _ (.tail _ (.head _)))))).rowT rfl, ?_⟩
                    obtain rfl := Option.some.inj h
                    exact hR _ (dr2 (dr2 (dr2 (pu2 (pu2 hO)))))


                · replace h := ifTd w106 h
                  refine ⟨x22.a, ((hO.blk (.head _)).rdv rfl), ?_⟩
                  obtain ⟨x141, g142, h⟩ := getS h
                  refine ⟨_, _, rfl, g142.1, g142.2.1, rfl, ?_⟩
                  refine ⟨x141.a, ((hO.arr (.tail _ (.tail _ (.head _)))).rd (i := Int.toNat x22.a) (j := 2) lenNode g142.2.2 (by decide) (zo _ 2) rfl), ?_⟩
                  obtain ⟨r143, e144, h⟩ := bindS h
                  refine ih_204 b0 a0 m0 c0 x141.a b2 a2 m2 c2 r143 e144 _ _ _ (fr2 (pu3 (pu3 hO))) (fun H145 hO => ?_)
                  replace hO := un2 hO
                  refine ⟨r143, rfl, ?_⟩
                  intro H146 eH146
                  replace hO := own_new (l := encVal (⟨(0 : Int), (0 : Int), ([] : List UInt8)⟩ : ValT)) hO eH146 rfl
                  refine ⟨(hO.blk (.head _)).wr (Nat.le_of_ble_eq_true rfl), ?_⟩
                  intro H147 eH147
                  replace hO := oz0 (l' := encVal r143) hO eH147 rfl
                  refine ⟨x22.op, ((hO.blk (.tail _ (.tail _ (.tail _ (.head _))))).rdv rfl), ?_⟩
                  refine ⟨r143, (hO.blk (.head _)).rowT rfl, ?_⟩
                  obtain ⟨r148, e149, h⟩ := bindS h
                  refine c226 x22.op r143 r148 e149 _ _ _ (fr0 hO) (fun H150 hO => ?_)
                  replace hO := un0 hO
                  refine ⟨r148, rfl, ?_⟩
                  refine ⟨(hO.blk (.tail _ (.tail _ (.tail _ (.tail _ (.head _)))))).wr (Nat.le_of_ble_eq_true rfl), ?_⟩
                  intro H151 eH151
                  replace hO := oz4 (l' := encVal r148) hO eH151 rfl
                  refine ⟨r148, (hO.blk (.tail _ (.tail _ (.tail _ (.tail _ (.head _)))))).rowT rfl, ?_⟩
                  obtain rfl := Option.some.inj h
                  exact hR _ (dr2 (dr2 (dr2 (pu2 (pu2 hO)))))



            · replace h := ifFd w74 h
              refine c131 (2 : Int) _ rfl _ _ _ (fr0 hO) (fun H152 hO => ?_)
              replace hO := un0 hO
              refine ⟨(s131 (2 : Int)), rfl, ?_⟩
              refine ⟨(hO.blk (.tail _ (.head _))).wr (Nat.le_of_ble_eq_true rfl), ?_⟩
              intro H153 eH153
              replace hO := oz1 (l' := encVal (s131 (2 : Int))) hO eH153 rfl
              refine ⟨(s131 (2 : Int)), (hO.blk (.tail _ (.head _))).rowT rfl, ?_⟩
              obtain rfl := Option.some.inj h
              exact hR _ (dr2 (dr2 (pu3 (pu3 hO))))








theorem c229_b (n_ : Nat) (rec_204 : (List NodeT) → Nat → Int → (List ValT) → Nat → Option ValT) (rec_229 : (List NodeT) → Nat → Int → Int → (List ValT) → Nat → Option FoldT) (ih_204 : K204 rec_204) (ih_229 : K229 rec_229) (b0 : Nat) (a0 : List NodeT) (m0 c0 : Nat) (z1 : Int) (z2 : Int) (b3 : Nat) (a3 : List ValT) (m3 c3 : Nat) (r_ : FoldT) (h : s229_b n_ rec_204 rec_229 a0 m0 z1 z2 a3 m3 = some r_) (F : List Ent) (H : Heap) (R : Value → Heap → Prop)
    (hO : Own H [cellE 153 b0 (List.flatMap encNode a0), cellE 94 b3 (List.flatMap encVal a3)] F)
    (hR : ∀ (H' : Heap) , Own H' [cellE 153 b0 (List.flatMap encNode a0), cellE 94 b3 (List.flatMap encVal a3)] F → R (.agg ⟨encFold r_⟩) H') :
    HCalls Tryz.prog 229 #[Value.slice (some ⟨b0, 0, none⟩) m0 c0, I z1, I z2, Value.slice (some ⟨b3, 0, none⟩) m3 c3] H R := by
  refine vc229 (some ⟨b0, 0, none⟩) m0 c0 z1 z2 (some ⟨b3, 0, none⟩) m3 c3 H R ?_
  unfold s229_b at h
  intro H21 eH21
  replace hO := own_new (l := encFold (⟨(⟨(0 : Int), (0 : Int), ([] : List UInt8)⟩ : ValT), (0 : Int), (0 : Int), (0 : Int), (0 : Int), false, false⟩ : FoldT)) hO eH21 rfl
  refine ⟨fun w22 => ?_, fun w23 => ?_⟩
  · replace h := ifTd w22 h
    refine ⟨(hO.blk (.head _)).wr (Nat.le_of_ble_eq_true rfl), ?_⟩
    intro H24 eH24
    replace hO := oz0 (l' := encFold (⟨(⟨(0 : Int), (0 : Int), ([] : List UInt8)⟩ : ValT), (0 : Int), (0 : Int), (0 : Int), (0 : Int), true, false⟩ : FoldT)) hO eH24 rfl
    refine ⟨(⟨(⟨(0 : Int), (0 : Int), ([] : List UInt8)⟩ : ValT), (0 : Int), (0 : Int), (0 : Int), (0 : Int), true, false⟩ : FoldT), (hO.blk (.head _)).rowT rfl, ?_⟩
    obtain rfl := Option.some.inj h
    exact hR _ (dr2 (pu2 (pu2 hO)))

  · replace h := ifFd w23 h
    obtain ⟨x25, g26, h⟩ := getS h
    refine ⟨_, _, rfl, g26.1, g26.2.1, rfl, ?_⟩
    refine ⟨x25.b, ((hO.arr (.tail _ (.head _))).rd (i := Int.toNat z1) (j := 3) lenNode g26.2.2 (by decide) (zo _ 3) rfl), ?_⟩
    obtain ⟨r27, e28, h⟩ := bindS h
    refine ih_229 b0 a0 m0 c0 x25.b z2 b3 a3 m3 c3 r27 e28 _ _ _ (fr2 (pu2 (pu2 hO))) (fun H29 hO => ?_)
    replace hO := un2 hO
    refine ⟨r27, rfl, ?_⟩
    intro H30 eH30
    replace hO := own_new (l := encFold (⟨(⟨(0 : Int), (0 : Int), ([] : List UInt8)⟩ : ValT), (0 : Int), (0 : Int), (0 : Int), (0 : Int), false, false⟩ : FoldT)) hO eH30 rfl
    refine ⟨(hO.blk (.head _)).wr (Nat.le_of_ble_eq_true rfl), ?_⟩
    intro H31 eH31
    replace hO := oz0 (l' := encFold r27) hO eH31 rfl
    refine ⟨_, _, rfl, g26.1, g26.2.1, rfl, ?_⟩
    refine ⟨x25.a, ((hO.arr (.tail _ (.head _))).rd (i := Int.toNat z1) (j := 2) lenNode g26.2.2 (by decide) (zo _ 2) rfl), ?_⟩
    obtain ⟨x32, g33, h⟩ := getS h
    refine ⟨_, _, rfl, g33.1, g33.2.1, rfl, ?_⟩
    refine ⟨x32, (hO.arr (.tail _ (.head _))).row (i := Int.toNat x25.a) lenNode g33.2.2 (Nat.zero_add _), ?_⟩
    intro H34 eH34
    replace hO := own_new (l := encNode (⟨(0 : Int), (0 : Int), (0 : Int), (0 : Int), (0 : Int), (⟨(0 : Int), (0 : Int), false, false⟩ : RefT), (⟨(0 : Int), (0 : Int), false, false⟩ : RefT)⟩ : NodeT)) hO eH34 rfl
    refine ⟨(hO.blk (.head _)).wr (Nat.le_of_ble_eq_true rfl), ?_⟩
    intro H35 eH35
    replace hO := oz0 (l' := encNode x32) hO eH35 rfl
    refine ⟨x32.kind, ((hO.blk (.head _)).rdv rfl), ?_⟩
    refine ⟨fun w36 => ?_, fun w37 => ?_⟩
    · replace w36 := bnotT w36
      replace h := ifFd w36 h
      refine ⟨_, _, rfl, g26.1, g26.2.1, rfl, ?_⟩
      refine ⟨x25.a, ((hO.arr (.tail _ (.tail _ (.head _)))).rd (i := Int.toNat z1) (j := 2) lenNode g26.2.2 (by decide) (zo _ 2) rfl), ?_⟩
      obtain ⟨r38, e39, h⟩ := bindS h
      refine ih_204 b0 a0 m0 c0 x25.a b3 a3 m3 c3 r38 e39 _ _ _ (fr2 (pu3 (pu3 hO))) (fun H40 hO => ?_)
      replace hO := un2 hO
      refine ⟨r38, rfl, ?_⟩
      intro H41 eH41
      replace hO := own_new (l := encVal (⟨(0 : Int), (0 : Int), ([] : List UInt8)⟩ : ValT)) hO eH41 rfl
      refine ⟨(hO.blk (.head _)).wr (Nat.le_of_ble_eq_true rfl), ?_⟩
      intro H42 eH42
      replace hO := oz0 (l' := encVal r38) hO eH42 rfl
      refine ⟨r27, (hO.blk (.tail _ (.tail _ (.tail _ (.tail _ (.head _)))))).rowT rfl, ?_⟩
      refine ⟨r38, (hO.blk (.head _)).rowT rfl, ?_⟩
      obtain ⟨r43, e44, h⟩ := bindS h
      refine c240 r27 z2 r38 false r43 e44 _ _ _ (fr0 hO) (fun H45 hO => ?_)
      replace hO := un0 hO
      refine ⟨r43, rfl, ?_⟩
      refine ⟨(hO.blk (.tail _ (.tail _ (.tail _ (.tail _ (.tail _ (.head _))))))).wr (Nat.le_of_ble_eq_true rfl), ?_⟩
      intro H46 eH46
      replace hO := oz5 (l' := encFold r43) hO eH46 rfl
      refine ⟨r43, (hO.blk (.tail _ (.tail _ (.tail _ (.tail _ (.tail _ (.head _))))))).rowT rfl, ?_⟩
      obtain rfl := Option.some.inj h
      exact hR _ (dr2 (dr2 (dr2 (dr2 (pu2 (pu2 hO))))))

    · replace w37 := bnotF w37
      replace h := ifTd w37 h
      refine ⟨x32.r1, (hO.blk (.head _)).rowT rfl, ?_⟩
      refine ⟨x32.r2, (hO.blk (.head _)).rowT rfl, ?_⟩
      obtain ⟨r47, e48, h⟩ := bindS h
      refine c149 n_ x32.r1 x32.r2 r47 e48 _ _ _ (fr0 hO) (fun H49 hO => ?_)
      replace hO := un0 hO
      refine ⟨r47.1, r47.2, rfl, ?_⟩
      refine ⟨fun w50 => ?_, fun w51 => ?_⟩
      · replace w50 := bnotT w50
        replace h := ifFb w50 h
        refine c131 (2 : Int) _ rfl _ _ _ (fr0 hO) (fun H52 hO => ?_)
        replace hO := un0 hO
        refine ⟨(s131 (2 : Int)), rfl, ?_⟩
        intro H53 eH53
        replace hO := own_new (l := encVal (⟨(0 : Int), (0 : Int), ([] : List UInt8)⟩ : ValT)) hO eH53 rfl
        refine ⟨(hO.blk (.head _)).wr (Nat.le_of_ble_eq_true rfl), ?_⟩
        intro H54 eH54
        replace hO := oz0 (l' := encVal (s131 (2 : Int))) hO eH54 rfl
        refine ⟨r27, (hO.blk (.tail _ (.tail _ (.head _)))).rowT rfl, ?_⟩
        refine ⟨(s131 (2 : Int)), (hO.blk (.head _)).rowT rfl, ?_⟩
        obtain ⟨r55, e56, h⟩ := bindS h
        refine c240 r27 z2 (s131 (2 : Int)) true r55 e56 _ _ _ (fr0 hO) (fun H57 hO => ?_)
        replace hO := un0 hO
        refine ⟨r55, rfl, ?_⟩
        refine ⟨(hO.blk (.tail _ (.tail _ (.tail _ (.tail _ (.tail _ (.head _))))))).wr (Nat.le_of_ble_eq_true rfl), ?_⟩
        intro H58 eH58
        replace hO := oz5 (l' := encFold r55) hO eH58 rfl
        refine ⟨r55, (hO.blk (.tail _ (.tail _ (.tail _ (.tail _ (.tail _ (.head _))))))).rowT rfl, ?_⟩
        obtain rfl := Option.some.inj h
        exact hR _ (dr2 (dr2 (dr2 (dr2 (pu4 (pu4 hO))))))

      · replace w51 := bnotF w51
        replace h := ifTb w51 h
        replace hO := dr4 (pu4 (pu4 (pu4 (pu4 hO))))
        refine ⟨fun l Hc => ∃ m : Nat, ∃ t82 : FoldT, Own Hc [cellE 237 H29.size (encFold t82), cellE 153 b0 (List.flatMap encNode a0), cellE 94 b3 (List.flatMap encVal a3), cellE 237 H.size (encFold (⟨(⟨(0 : Int), (0 : Int), ([] : List UInt8)⟩ : ValT), (0 : Int), (0 : Int), (0 : Int), (0 : Int), false, false⟩ : FoldT))] F ∧ (l229_3 n_ z2 a3 m3 r47 m (asI (nth l 0)) t82) = some r_, fun l Hc => Classical.epsilon <| lsp fun m => ∃ t82 : FoldT, Own Hc [cellE 237 H29.size (encFold t82), cellE 153 b0 (List.flatMap encNode a0), cellE 94 b3 (List.flatMap encVal a3), cellE 237 H.size (encFold (⟨(⟨(0 : Int), (0 : Int), ([] : List UInt8)⟩ : ValT), (0 : Int), (0 : Int), (0 : Int), (0 : Int), false, false⟩ : FoldT))] F ∧ (l229_3 n_ z2 a3 m3 r47 m (asI (nth l 0)) t82) = some r_, ?_, ?_⟩
        · exact ⟨n_, r27, hO, h⟩
        · clear hO h
          intro H83 u84 x85 hJ
          obtain ⟨m117, hm87, hJ⟩ := lst_get hJ
          obtain ⟨t82, hO, h⟩ := hJ
          rcases m117 with _ | k116
          · exact absurd h (by simp [l229_3, asI, asB, asC, asS])
          obtain ⟨rec86, hrec86, h⟩ : ∃ f_, f_ = l229_3 n_ z2 a3 m3 r47 k116 ∧ (l229_3_st n_ z2 a3 m3 r47 f_ x85 t82) = some r_ := ⟨_, rfl, h⟩
          unfold l229_3_st at h
          refine ⟨fun w88 => ?_, fun w89 => ?_⟩
          · replace h := ifTd w88 h
            refine ⟨fun l Hc => ∃ t102 : FoldT, Own Hc [cellE 237 H29.size (encFold t102), cellE 153 b0 (List.flatMap encNode a0), cellE 94 b3 (List.flatMap encVal a3), cellE 237 H.size (encFold (⟨(⟨(0 : Int), (0 : Int), ([] : List UInt8)⟩ : ValT), (0 : Int), (0 : Int), (0 : Int), (0 : Int), false, false⟩ : FoldT))] F ∧ (k229_2 x85 rec86 t102) = some r_, ?_, ?_⟩
            · refine c92 x85 _ rfl _ _ _ (fr0 hO) (fun H106 hO => ?_)
              replace hO := un0 hO
              refine ⟨(s92 x85), rfl, ?_⟩
              refine ⟨r47.1, (s92 x85), rfl, rfl, ?_⟩
              refine ⟨fun w107 => ?_, fun w108 => ?_⟩
              · replace w107 := bnotT w107
                replace h := ifFd w107 h
                refine ⟨t82, (hO.blk (.head _)).rowT rfl, ?_⟩
                obtain ⟨x109, g110, h⟩ := getS h
                refine ⟨_, _, rfl, g110.1, g110.2.1, rfl, ?_⟩
                refine ⟨x109, (hO.arr (.tail _ (.tail _ (.head _)))).row (i := Int.toNat x85) lenVal g110.2.2 (Nat.zero_add _), ?_⟩
                obtain ⟨r111, e112, h⟩ := bindS h
                refine c240 t82 z2 x109 true r111 e112 _ _ _ (fr0 hO) (fun H113 hO => ?_)
                replace hO := un0 hO
                refine ⟨r111, rfl, ?_⟩
                refine ⟨(hO.blk (.head _)).wr (Nat.le_of_ble_eq_true rfl), ?_⟩
                intro H114 eH114
                replace hO := oz0 (l' := encFold r111) hO eH114 rfl
                exact ⟨r111, hO, h⟩

              · replace w108 := bnotF w108
                replace h := ifTd w108 h
                exact ⟨t82, hO, h⟩


            · clear hO h
              intro H103 u104  hJ
              obtain ⟨t102, hO, h⟩ := hJ
              replace h : (k229_2 x85 rec86 t102) = some r_ := h
              unfold k229_2 at h
              obtain ⟨q105, h⟩ := ckS h
              refine ⟨_, .inl ⟨q105, rfl⟩, ?_⟩
              subst hrec86
              exact lst_step hm87 ⟨t102, hO, h⟩


          · replace h := ifFd w89 h
            refine ⟨t82, (hO.blk (.head _)).rowT rfl, ?_⟩
            refine ⟨(hO.blk (.tail _ (.tail _ (.tail _ (.head _))))).wr (Nat.le_of_ble_eq_true rfl), ?_⟩
            intro H115 eH115
            replace hO := oz3 (l' := encFold t82) hO eH115 rfl
            refine ⟨t82, (hO.blk (.tail _ (.tail _ (.tail _ (.head _))))).rowT rfl, ?_⟩
            obtain rfl := Option.some.inj h
            exact hR _ (dr2 (dr2 (pu2 (pu2 hO))))






theorem crc204 (n_ : Nat) : ∀ m, K204 ((rc204 n_ m).1) ∧ K229 ((rc204 n_ m).2) := by
  intro m
  induction m with
  | zero => exact ⟨by unfold K204; intros; rename_i h F H R hO hR; exact absurd h (by simp [rc204]), by unfold K229; intros; rename_i h F H R hO hR; exact absurd h (by simp [rc204])⟩
  | succ m ih =>
    obtain ⟨ih_204, ih_229⟩ := ih
    exact ⟨c204_b n_ _ _ ih_204 ih_229, c229_b n_ _ _ ih_204 ih_229⟩
theorem c204 (n_ : Nat) : K204 (s204 n_) := (crc204 n_ n_).1
theorem c229 (n_ : Nat) : K229 (s229 n_) := (crc204 n_ n_).2

theorem c162 (n_ : Nat) (b0 : Nat) (t0 : TreeV) (c0 : Nat) (b1 : Nat) (a1 : List ValT) (m1 c1 : Nat) (r_ : ValT) (h : s162 n_ t0 a1 m1 = some r_) (F : List Ent) (H : Heap) (R : Value → Heap → Prop)
    (hO : Own H [cellE 153 b0 (List.flatMap encNode t0.nodes), cellE 94 b1 (List.flatMap encVal a1)] F)
    (hR : ∀ (H' : Heap) , Own H' [cellE 153 b0 (List.flatMap encNode t0.nodes), cellE 94 b1 (List.flatMap encVal a1)] F → R (.agg ⟨encVal r_⟩) H') :
    HCalls Tryz.prog 162 #[Value.agg ⟨encTree ⟨some ⟨b0, 0, none⟩, t0.nodes.length, c0, t0.root, t0.err, t0.pos⟩⟩, Value.slice (some ⟨b1, 0, none⟩) m1 c1] H R := by
  refine vc162 ⟨some ⟨b0, 0, none⟩, t0.nodes.length, c0, t0.root, t0.err, t0.pos⟩ (some ⟨b1, 0, none⟩) m1 c1 H R ?_
  unfold s162 at h
  intro H21 eH21
  replace hO := own_new (l := [Value.slice (some ⟨b0, 0, none⟩) t0.nodes.length c0, I t0.root, I t0.err, I t0.pos]) hO eH21 rfl
  intro H22 eH22
  replace hO := own_new (l := encVal (⟨(0 : Int), (0 : Int), ([] : List UInt8)⟩ : ValT)) hO eH22 rfl
  refine ⟨(some ⟨b0, 0, none⟩), t0.nodes.length, c0, ((hO.blk (.tail _ (.head _))).rdv rfl), ?_⟩
  refine ⟨t0.root, ((hO.blk (.tail _ (.head _))).rdv rfl), ?_⟩
  obtain ⟨r23, e24, h⟩ := bindS h
  refine c204 n_ b0 t0.nodes t0.nodes.length c0 t0.root b1 a1 m1 c1 r23 e24 _ _ _ (fr2 (pu3 (pu3 hO))) (fun H25 hO => ?_)
  replace hO := un2 hO
  refine ⟨r23, rfl, ?_⟩
  refine ⟨(hO.blk (.tail _ (.tail _ (.head _)))).wr (Nat.le_of_ble_eq_true rfl), ?_⟩
  intro H26 eH26
  replace hO := oz2 (l' := encVal r23) hO eH26 rfl
  refine ⟨r23, (hO.blk (.tail _ (.tail _ (.head _)))).rowT rfl, ?_⟩
  obtain rfl := Option.some.inj h
  exact hR _ (dr2 (dr2 (hO)))


theorem c137 (n_ : Nat) (z0 : Nat) (L0 : VML) (S0 : VMS) (z1 : List UInt8) (b2 : Nat) (a2 : List ValT) (m2 c2 : Nat) (r_ : VMS × ValT × Int) (h : s137 n_ S0 z1 a2 m2 = some r_) (F : List Ent) (H : Heap) (R : Value → Heap → Prop)
    (hO : Own H [oVM z0 L0 S0, cellE 94 b2 (List.flatMap encVal a2)] F)
    (hR : ∀ (H' : Heap) , Own H' [oVM z0 L0 r_.1, cellE 94 b2 (List.flatMap encVal a2)] F → R (.tuple #[.agg ⟨encVal r_.2.1⟩, I r_.2.2]) H') :
    HCalls Tryz.prog 137 #[Value.pointer (some ⟨z0, 0, none⟩), str z1, Value.slice (some ⟨b2, 0, none⟩) m2 c2] H R := by
  refine vc137 z0 z1 (some ⟨b2, 0, none⟩) m2 c2 H R ?_
  unfold s137 at h
  intro H21 eH21
  replace hO := own_new (l := encVal (⟨(0 : Int), (0 : Int), ([] : List UInt8)⟩ : ValT)) hO eH21 rfl
  replace hO := open_VM (pu1 hO)
  refine ⟨S0.cells, ((hO.blk (.head _)).rdv rfl), ?_⟩
  refine ⟨_, .inr rfl, ?_⟩
  refine ⟨(hO.blk (.head _)).wr (Nat.le_of_ble_eq_true rfl), ?_⟩
  intro H22 eH22
  replace hO := os0 (l' := [Value.pointer (some ⟨L0.f, 0, none⟩), I (IntKind.wrap .i64 (S0.cells + (1 : Int))), I S0.reads]) hO eH22 rfl
  refine ⟨fun w23 => ?_, fun w24 => ?_⟩
  · replace h := ifTd w23 h
    refine ⟨(hO.blk (.tail _ (.tail _ (.head _)))).wr (Nat.le_of_ble_eq_true rfl), ?_⟩
    intro H25 eH25
    replace hO := oz2 (l' := encVal (⟨(0 : Int), (0 : Int), ([] : List UInt8)⟩ : ValT)) hO eH25 rfl
    refine ⟨(⟨(0 : Int), (0 : Int), ([] : List UInt8)⟩ : ValT), (hO.blk (.tail _ (.tail _ (.head _)))).rowT rfl, ?_⟩
    replace hO := close_VM L0 ({ S0 with cells := (IntKind.wrap .i64 (S0.cells + (1 : Int))) }) (hO)
    obtain rfl := Option.some.inj h
    exact hR _ (dr2 (pu1 (pu2 hO)))

  · replace h := ifFd w24 h
    refine ⟨fun w26 => ?_, fun w27 => ?_⟩
    · replace w26 := bnotT w26
      replace h := ifFd w26 h
      refine ⟨(hO.blk (.tail _ (.tail _ (.head _)))).wr (Nat.le_of_ble_eq_true rfl), ?_⟩
      intro H28 eH28
      replace hO := oz2 (l' := encVal (⟨(0 : Int), (0 : Int), ([] : List UInt8)⟩ : ValT)) hO eH28 rfl
      refine ⟨(⟨(0 : Int), (0 : Int), ([] : List UInt8)⟩ : ValT), (hO.blk (.tail _ (.tail _ (.head _)))).rowT rfl, ?_⟩
      replace hO := close_VM L0 ({ S0 with cells := (IntKind.wrap .i64 (S0.cells + (1 : Int))) }) (hO)
      obtain rfl := Option.some.inj h
      exact hR _ (dr2 (pu1 (pu2 hO)))

    · replace w27 := bnotF w27
      replace h := ifTd w27 h
      replace hO := close_VM L0 ({ S0 with cells := (IntKind.wrap .i64 (S0.cells + (1 : Int))) }) (hO)
      refine ⟨fun l Hc => ∃ m : Nat, Own Hc [oVM z0 L0 ({ S0 with cells := (IntKind.wrap .i64 (S0.cells + (1 : Int))) }), cellE 94 H.size (encVal (⟨(0 : Int), (0 : Int), ([] : List UInt8)⟩ : ValT)), cellE 94 b2 (List.flatMap encVal a2)] F ∧ (l137_0 n_ S0 z1 a2 m2 m (asI (nth l 0))) = some r_, fun l Hc => Classical.epsilon <| lsp fun m => Own Hc [oVM z0 L0 ({ S0 with cells := (IntKind.wrap .i64 (S0.cells + (1 : Int))) }), cellE 94 H.size (encVal (⟨(0 : Int), (0 : Int), ([] : List UInt8)⟩ : ValT)), cellE 94 b2 (List.flatMap encVal a2)] F ∧ (l137_0 n_ S0 z1 a2 m2 m (asI (nth l 0))) = some r_, ?_, ?_⟩
      · exact ⟨n_, hO, h⟩
      · clear hO h
        intro H29 u30 x31 hJ
        obtain ⟨m103, hm33, hJ⟩ := lst_get hJ
        obtain ⟨hO, h⟩ := hJ
        rcases m103 with _ | k102
        · exact absurd h (by simp [l137_0, asI, asB, asC, asS])
        obtain ⟨rec32, hrec32, h⟩ : ∃ f_, f_ = l137_0 n_ S0 z1 a2 m2 k102 ∧ (l137_0_st n_ S0 z1 a2 m2 f_ x31) = some r_ := ⟨_, rfl, h⟩
        unfold l137_0_st at h
        refine ⟨fun w34 => ?_, fun w35 => ?_⟩
        · replace h := ifTd w34 h
          obtain ⟨x36, g37, h⟩ := getS h
          refine ⟨_, _, rfl, g37.1, g37.2.1, rfl, ?_⟩
          refine ⟨x36, (hO.arr (.tail _ (.tail _ (.head _)))).row (i := Int.toNat x31) lenVal g37.2.2 (Nat.zero_add _), ?_⟩
          refine c155 x36 _ rfl _ _ _ (fr0 hO) (fun H38 hO => ?_)
          replace hO := un0 hO
          refine ⟨(s155 x36), rfl, ?_⟩
          refine ⟨fun w39 => ?_, fun w40 => ?_⟩
          · replace w39 := bnotT w39
            replace h := ifFb w39 h
            refine ⟨(hO.blk (.tail _ (.head _))).wr (Nat.le_of_ble_eq_true rfl), ?_⟩
            intro H41 eH41
            replace hO := oz1 (l' := encVal (⟨(0 : Int), (0 : Int), ([] : List UInt8)⟩ : ValT)) hO eH41 rfl
            refine ⟨(⟨(0 : Int), (0 : Int), ([] : List UInt8)⟩ : ValT), (hO.blk (.tail _ (.head _))).rowT rfl, ?_⟩
            obtain rfl := Option.some.inj h
            exact hR _ (dr2 (pu1 (pu2 hO)))

          · replace w40 := bnotF w40
            replace h := ifTb w40 h
            obtain ⟨q42, h⟩ := ckS h
            refine ⟨_, .inl ⟨q42, rfl⟩, ?_⟩
            subst hrec32
            exact lst_step hm33 ⟨hO, h⟩


        · replace h := ifFd w35 h
          refine ⟨fun w44 => ?_, fun w43 => ?_⟩
          · replace h := ifFb w44 h
            obtain ⟨q45, h⟩ := ckS h
            refine ⟨q45.1, q45.2, ?_⟩
            refine ⟨fun w46 => ?_, fun w47 => ?_⟩
            · replace w46 := bnotT w46
              replace h := ifFd w46 h
              obtain ⟨r48, e49, h⟩ := bindS h
              refine c156 n_ z1 r48 e49 _ _ _ (fr0 hO) (fun H50 hO => ?_)
              replace hO := un0 hO
              refine ⟨r48, rfl, ?_⟩
              refine ⟨(hO.blk (.tail _ (.head _))).wr (Nat.le_of_ble_eq_true rfl), ?_⟩
              intro H51 eH51
              replace hO := oz1 (l' := encVal r48) hO eH51 rfl
              refine ⟨r48, (hO.blk (.tail _ (.head _))).rowT rfl, ?_⟩
              obtain rfl := Option.some.inj h
              exact hR _ (dr2 (pu1 (pu2 hO)))

            · replace w47 := bnotF w47
              replace h := ifTd w47 h
              replace hO := open_VM (pu0 hO)
              refine ⟨L0.f, ((hO.blk (.head _)).rdv rfl), ?_⟩
              obtain ⟨q52, h⟩ := ckS h
              refine ⟨q52.1, q52.2, ?_⟩
              obtain ⟨r53, e54, h⟩ := bindS h
              refine ⟨?_, ?_⟩
              · refine c120 n_ L0.f L0.fl S0.f (List.drop (Int.toNat (1 : Int)) z1) r53 e54 _ _ _ (fr1 (pu1 hO)) (fun H62 a63 k64 C65 hs66 hO => ?_)
                replace hO := un2 hO
                refine ⟨(⟨a63, r53.2.nodes.length, k64, r53.2.root, r53.2.err, r53.2.pos⟩ : TreeT), rfl, ?_⟩
                intro H67 eH67
                replace hO := own_new (l := [Value.slice none 0 0, I (0 : Int), I (0 : Int), I (0 : Int)]) hO eH67 rfl
                refine ⟨(hO.blk (.head _)).wr (Nat.le_of_ble_eq_true rfl), ?_⟩
                intro H68 eH68
                replace hO := oz0 (l' := [Value.slice a63 r53.2.nodes.length k64, I r53.2.root, I r53.2.err, I r53.2.pos]) hO eH68 rfl
                refine ⟨r53.2.err, ((hO.blk (.head _)).rdv rfl), ?_⟩
                refine ⟨fun w69 => ?_, fun w70 => ?_⟩
                · replace w69 := bnotT w69
                  replace h := ifFd w69 h
                  refine c131 (1 : Int) _ rfl _ _ _ (fr0 hO) (fun H71 hO => ?_)
                  replace hO := un0 hO
                  refine ⟨(s131 (1 : Int)), rfl, ?_⟩
                  refine ⟨(hO.blk (.tail _ (.tail _ (.tail _ (.tail _ (.head _)))))).wr (Nat.le_of_ble_eq_true rfl), ?_⟩
                  intro H72 eH72
                  replace hO := oz4 (l' := encVal (s131 (1 : Int))) hO eH72 rfl
                  refine ⟨(s131 (1 : Int)), (hO.blk (.tail _ (.tail _ (.tail _ (.tail _ (.head _)))))).rowT rfl, ?_⟩
                  replace hO := close_VM L0 ({ S0 with f := r53.1, cells := (IntKind.wrap .i64 (S0.cells + (1 : Int))) }) (pu3 (pu1 hO))
                  obtain rfl := Option.some.inj h
                  exact hR _ (dr2 (dr2 (dr2 (pu1 (pu4 hO)))))

                · replace w70 := bnotF w70
                  replace h := ifTd w70 h
                  refine ⟨(⟨a63, r53.2.nodes.length, k64, r53.2.root, r53.2.err, r53.2.pos⟩ : TreeT), (hO.blk (.head _)).rowT rfl, ?_⟩
                  obtain ⟨q73, h⟩ := ckS h
                  obtain ⟨b74, ha_, hC_⟩ := hs66.2 q73
                  subst ha_ hC_
                  obtain ⟨r76, e77, h⟩ := bindS h
                  refine c162 n_ b74 r53.2 k64 b2 a2 m2 c2 r76 e77 _ _ _ (fr2 (pu3 (pu5 hO))) (fun H78 hO => ?_)
                  replace hO := un2 hO
                  refine ⟨r76, rfl, ?_⟩
                  refine ⟨(hO.blk (.tail _ (.tail _ (.tail _ (.tail _ (.tail _ (.head _))))))).wr (Nat.le_of_ble_eq_true rfl), ?_⟩
                  intro H79 eH79
                  replace hO := oz5 (l' := encVal r76) hO eH79 rfl
                  refine ⟨r76, (hO.blk (.tail _ (.tail _ (.tail _ (.tail _ (.tail _ (.head _))))))).rowT rfl, ?_⟩
                  replace hO := close_VM L0 ({ S0 with f := r53.1, cells := (IntKind.wrap .i64 (S0.cells + (1 : Int))) }) (pu4 (pu3 hO))
                  obtain rfl := Option.some.inj h
                  exact hR _ (dr2 (dr2 (dr2 (pu1 (pu2 hO)))))


              · intro H80 eH80
                replace hO := own_new (l := [Value.slice none 0 0, I (0 : Int), I (0 : Int), I (0 : Int)]) hO eH80 rfl
                refine c120 n_ L0.f L0.fl S0.f (List.drop (Int.toNat (1 : Int)) z1) r53 e54 _ _ _ (fr1 (pu2 hO)) (fun H81 a82 k83 C84 hs85 hO => ?_)
                replace hO := un2 hO
                refine ⟨(⟨a82, r53.2.nodes.length, k83, r53.2.root, r53.2.err, r53.2.pos⟩ : TreeT), rfl, ?_⟩
                refine ⟨(hO.blk (.tail _ (.tail _ (.head _)))).wr (Nat.le_of_ble_eq_true rfl), ?_⟩
                intro H86 eH86
                replace hO := oz2 (l' := [Value.slice a82 r53.2.nodes.length k83, I r53.2.root, I r53.2.err, I r53.2.pos]) hO eH86 rfl
                refine ⟨r53.2.err, ((hO.blk (.tail _ (.tail _ (.head _)))).rdv rfl), ?_⟩
                refine ⟨fun w87 => ?_, fun w88 => ?_⟩
                · replace w87 := bnotT w87
                  replace h := ifFd w87 h
                  refine c131 (1 : Int) _ rfl _ _ _ (fr0 hO) (fun H89 hO => ?_)
                  replace hO := un0 hO
                  refine ⟨(s131 (1 : Int)), rfl, ?_⟩
                  refine ⟨(hO.blk (.tail _ (.tail _ (.tail _ (.tail _ (.head _)))))).wr (Nat.le_of_ble_eq_true rfl), ?_⟩
                  intro H90 eH90
                  replace hO := oz4 (l' := encVal (s131 (1 : Int))) hO eH90 rfl
                  refine ⟨(s131 (1 : Int)), (hO.blk (.tail _ (.tail _ (.tail _ (.tail _ (.head _)))))).rowT rfl, ?_⟩
                  replace hO := close_VM L0 ({ S0 with f := r53.1, cells := (IntKind.wrap .i64 (S0.cells + (1 : Int))) }) (pu3 (pu0 hO))
                  obtain rfl := Option.some.inj h
                  exact hR _ (dr2 (dr2 (dr2 (pu1 (pu4 hO)))))

                · replace w88 := bnotF w88
                  replace h := ifTd w88 h
                  refine ⟨(⟨a82, r53.2.nodes.length, k83, r53.2.root, r53.2.err, r53.2.pos⟩ : TreeT), (hO.blk (.tail _ (.tail _ (.head _)))).rowT rfl, ?_⟩
                  obtain ⟨q91, h⟩ := ckS h
                  obtain ⟨b92, ha_, hC_⟩ := hs85.2 q91
                  subst ha_ hC_
                  obtain ⟨r94, e95, h⟩ := bindS h
                  refine c162 n_ b92 r53.2 k83 b2 a2 m2 c2 r94 e95 _ _ _ (fr2 (pu2 (pu5 hO))) (fun H96 hO => ?_)
                  replace hO := un2 hO
                  refine ⟨r94, rfl, ?_⟩
                  refine ⟨(hO.blk (.tail _ (.tail _ (.tail _ (.tail _ (.tail _ (.head _))))))).wr (Nat.le_of_ble_eq_true rfl), ?_⟩
                  intro H97 eH97
                  replace hO := oz5 (l' := encVal r94) hO eH97 rfl
                  refine ⟨r94, (hO.blk (.tail _ (.tail _ (.tail _ (.tail _ (.tail _ (.head _))))))).rowT rfl, ?_⟩
                  replace hO := close_VM L0 ({ S0 with f := r53.1, cells := (IntKind.wrap .i64 (S0.cells + (1 : Int))) }) (pu4 (pu2 hO))
                  obtain rfl := Option.some.inj h
                  exact hR _ (dr2 (dr2 (dr2 (pu1 (pu2 hO)))))




          · replace h := ifTb w43 h
            obtain ⟨r98, e99, h⟩ := bindS h
            refine c156 n_ z1 r98 e99 _ _ _ (fr0 hO) (fun H100 hO => ?_)
            replace hO := un0 hO
            refine ⟨r98, rfl, ?_⟩
            refine ⟨(hO.blk (.tail _ (.head _))).wr (Nat.le_of_ble_eq_true rfl), ?_⟩
            intro H101 eH101
            replace hO := oz1 (l' := encVal r98) hO eH101 rfl
            refine ⟨r98, (hO.blk (.tail _ (.head _))).rowT rfl, ?_⟩
            obtain rfl := Option.some.inj h
            exact hR _ (dr2 (pu1 (pu2 hO)))







theorem c114 (n_ : Nat) (z0 : Nat) (L0 : KML) (S0 : KMS) (r_ : KMS) (h : s114 n_ S0 = some r_) (F : List Ent) (H : Heap) (R : Value → Heap → Prop)
    (hO : Own H [oKM z0 L0 S0] F)
    (hR : ∀ (H' : Heap) (L0' : KML), Own H' [oKM z0 (L0') r_] F → R (.tuple #[]) H') :
    HCalls Tryz.prog 114 #[Value.pointer (some ⟨z0, 0, none⟩)] H R := by
  refine vc114 z0 H R ?_
  unfold s114 at h
  obtain ⟨r21, e22, h⟩ := bindS h
  refine c134 n_ z0 L0 S0 r21 e22 _ _ _ (fr1 hO) (fun H23 L24 z25 L26 hO => ?_)
  replace hO := un2 hO
  refine ⟨z25, rfl, ?_⟩
  obtain ⟨r27, e28, h⟩ := bindS h
  refine c135 n_ z25 L26 r21.2 r27 e28 _ _ _ (fr1 (pu1 hO)) (fun H29 hO => ?_)
  replace hO := un1 hO
  refine ⟨r27.2, rfl, ?_⟩
  refine ⟨rfl, (by decide), (by decide), rfl, ?_⟩
  intro H30 eH30
  replace hO := own_new (l := List.flatMap encVal (List.replicate 24 dVal)) hO eH30 (z94 _)
  refine ⟨fun l Hc => ∃ m : Nat, ∃ a52 : List ValT, Own Hc [cellE 94 H29.size (List.flatMap encVal a52), oGM z25 L26 r27.1, oKM z0 L24 r21.1] F ∧ (l114_4 n_ r21 r27 m (asI (nth l 0)) a52) = some r_, fun l Hc => Classical.epsilon <| lsp fun m => ∃ a52 : List ValT, Own Hc [cellE 94 H29.size (List.flatMap encVal a52), oGM z25 L26 r27.1, oKM z0 L24 r21.1] F ∧ (l114_4 n_ r21 r27 m (asI (nth l 0)) a52) = some r_, ?_, ?_⟩
  · exact ⟨n_, (List.replicate 24 dVal), hO, h⟩
  · clear hO h
    intro H53 u54 x55 hJ
    obtain ⟨m288, hm57, hJ⟩ := lst_get hJ
    obtain ⟨a52, hO, h⟩ := hJ
    rcases m288 with _ | k287
    · exact absurd h (by simp [l114_4, asI, asB, asC, asS])
    obtain ⟨rec56, hrec56, h⟩ : ∃ f_, f_ = l114_4 n_ r21 r27 k287 ∧ (l114_4_st n_ r21 r27 f_ x55 a52) = some r_ := ⟨_, rfl, h⟩
    unfold l114_4_st at h
    refine ⟨fun w58 => ?_, fun w59 => ?_⟩
    · replace h := ifTd w58 h
      refine ⟨fun l Hc => ∃ a70 : List ValT, Own Hc [cellE 94 H29.size (List.flatMap encVal a70), oGM z25 L26 r27.1, oKM z0 L24 r21.1] F ∧ (k114_2 x55 rec56 a70) = some r_, ?_, ?_⟩
      · refine c92 x55 _ rfl _ _ _ (fr0 hO) (fun H74 hO => ?_)
        replace hO := un0 hO
        refine ⟨(s92 x55), rfl, ?_⟩
        refine ⟨r27.2, (s92 x55), rfl, rfl, ?_⟩
        refine ⟨fun w75 => ?_, fun w76 => ?_⟩
        · replace w75 := bnotT w75
          replace h := ifFd w75 h
          refine c131 (6 : Int) _ rfl _ _ _ (fr0 hO) (fun H77 hO => ?_)
          replace hO := un0 hO
          refine ⟨(s131 (6 : Int)), rfl, ?_⟩
          obtain ⟨x78, g79, h⟩ := getS h
          refine ⟨_, _, rfl, g79.1, g79.2.1, rfl, ?_⟩
          refine ⟨((hO.arr (.head _)).wr1 lenVal (i := Int.toNat x55) (j := 0) (getLt g79.2.2) (Nat.le_of_ble_eq_true rfl) (zo0 _)), ?_⟩
          intro H80 eH80
          replace hO := oz0 (l' := List.flatMap encVal (List.set a52 (Int.toNat x55) (s131 (6 : Int)))) hO eH80 (flat_put1 lenVal (i := Int.toNat x55) (x := (s131 (6 : Int))) (getLt g79.2.2) (Nat.zero_add _))
          exact ⟨(List.set a52 (Int.toNat x55) (s131 (6 : Int))), hO, h⟩

        · replace w76 := bnotF w76
          replace h := ifTd w76 h
          exact ⟨a52, hO, h⟩


      · clear hO h
        intro H71 u72  hJ
        obtain ⟨a70, hO, h⟩ := hJ
        replace h : (k114_2 x55 rec56 a70) = some r_ := h
        unfold k114_2 at h
        obtain ⟨q73, h⟩ := ckS h
        refine ⟨_, .inl ⟨q73, rfl⟩, ?_⟩
        subst hrec56
        exact lst_step hm57 ⟨a70, hO, h⟩


    · replace h := ifFd w59 h
      obtain ⟨r81, e82, h⟩ := bindS h
      refine c136 n_ z25 L26 r27.1 (4294967295 : BitVec 32) r81 e82 _ _ _ (fr1 (pu1 hO)) (fun H83 a84 m85 k86 C87 hs88 hO => ?_)
      replace hO := un2 hO
      obtain rfl := hs88.1
      refine ⟨a84, r81.2.length, k86, rfl, ?_⟩
      refine ⟨fun l Hc => ∃ m : Nat, ∃ a178 : List ValT, ∃ S179 : KMS, ∃ L180 : KML, Own Hc [oGM z25 L26 r81.1, C87, cellE 94 H29.size (List.flatMap encVal a178), oKM z0 L180 S179] F ∧ (l114_3 n_ r81 m (asI (nth l 0)) a178 S179) = some r_, fun l Hc => Classical.epsilon <| lsp fun m => ∃ a178 : List ValT, ∃ S179 : KMS, ∃ L180 : KML, Own Hc [oGM z25 L26 r81.1, C87, cellE 94 H29.size (List.flatMap encVal a178), oKM z0 L180 S179] F ∧ (l114_3 n_ r81 m (asI (nth l 0)) a178 S179) = some r_, ?_, ?_⟩
      · exact ⟨n_, a52, r21.1, L24, hO, h⟩
      · clear hO h
        intro H181 u182 x183 hJ
        obtain ⟨m286, hm185, hJ⟩ := lst_get hJ
        obtain ⟨a178, S179, L180, hO, h⟩ := hJ
        rcases m286 with _ | k285
        · exact absurd h (by simp [l114_3, asI, asB, asC, asS])
        obtain ⟨rec184, hrec184, h⟩ : ∃ f_, f_ = l114_3 n_ r81 k285 ∧ (l114_3_st n_ r81 f_ x183 a178 S179) = some r_ := ⟨_, rfl, h⟩
        unfold l114_3_st at h
        refine ⟨fun w186 => ?_, fun w187 => ?_⟩
        · replace h := ifTd w186 h
          replace hO := open_KM (pu3 hO)
          refine ⟨L180.v, ((hO.blk (.head _)).rdv rfl), ?_⟩
          obtain ⟨q188, h⟩ := ckS h
          obtain ⟨b189, y190, ha_, hC_⟩ := hs88.2 q188
          subst ha_ hC_
          obtain ⟨x191, g192, h⟩ := getS h
          refine ⟨_, _, rfl, g192.1, g192.2.1, rfl, ?_⟩
          obtain ⟨x193, g194, h⟩ := getS h
          obtain ⟨r195, e196, h⟩ := bindS h
          refine ⟨?_, ?_, ?_⟩
          · refine ⟨(some ⟨L180.raw, 0, none⟩), 24, 24, ((hO.blk (.head _)).rdv rfl), ?_⟩
            refine ⟨?_, ?_⟩
            · refine ⟨x191, ((hO.arr (.tail _ (.tail _ (.tail _ (.tail _ (.tail _ (.head _))))))).rd (i := Int.toNat x183) (j := 0) lenI (appGet g192.2.2) (by decide) (zo0 _) rfl), ?_⟩
              refine ⟨_, _, rfl, g194.1, g194.2.1, rfl, ?_⟩
              refine ⟨x193, ((hO.arr (.tail _ (.tail _ (.head _)))).rd (i := Int.toNat x191) (j := 0) lenStr g194.2.2 (by decide) (zo0 _) rfl), ?_⟩
              refine ⟨?_, ?_⟩
              · refine c137 n_ L180.v L180.vl S179.v x193 H29.size a178 24 24 r195 e196 _ _ _ (fr2 (pu2 (pu6 hO))) (fun H218 hO => ?_)
                replace hO := un2 hO
                refine ⟨r195.2.1, r195.2.2, rfl, ?_⟩
                intro H219 eH219
                replace hO := own_new (l := encVal (⟨(0 : Int), (0 : Int), ([] : List UInt8)⟩ : ValT)) hO eH219 rfl
                refine ⟨(hO.blk (.head _)).wr (Nat.le_of_ble_eq_true rfl), ?_⟩
                intro H220 eH220
                replace hO := oz0 (l' := encVal r195.2.1) hO eH220 rfl
                refine ⟨_, _, rfl, g192.1, g192.2.1, rfl, ?_⟩
                refine ⟨x191, ((hO.arr (.tail _ (.tail _ (.tail _ (.tail _ (.tail _ (.tail _ (.tail _ (.head _))))))))).rd (i := Int.toNat x183) (j := 0) lenI (appGet g192.2.2) (by decide) (zo0 _) rfl), ?_⟩
                refine ⟨r195.2.1, (hO.blk (.head _)).rowT rfl, ?_⟩
                obtain ⟨x221, g222, h⟩ := getS h
                refine ⟨_, _, rfl, g222.1, g222.2.1, rfl, ?_⟩
                refine ⟨((hO.arr (.tail _ (.tail _ (.head _)))).wr1 lenVal (i := Int.toNat x191) (j := 0) (getLt g222.2.2) (Nat.le_of_ble_eq_true rfl) (zo0 _)), ?_⟩
                intro H223 eH223
                replace hO := oz2 (l' := List.flatMap encVal (List.set a178 (Int.toNat x191) r195.2.1)) hO eH223 (flat_put1 lenVal (i := Int.toNat x191) (x := r195.2.1) (getLt g222.2.2) (Nat.zero_add _))
                obtain ⟨q224, h⟩ := ckS h
                refine ⟨_, .inl ⟨q224, rfl⟩, ?_⟩
                replace hO := close_KM L180 ({ S179 with v := r195.1 }) (pu5 (pu3 (pu5 (pu5 hO))))
                replace hO := dr4 (pu4 (pu4 (pu2 (pu0 hO))))
                subst hrec184
                exact lst_step hm185 ⟨(List.set a178 (Int.toNat x191) r195.2.1), ({ S179 with v := r195.1 }), L180, hO, h⟩

              · intro H225 eH225
                replace hO := own_new (l := encVal (⟨(0 : Int), (0 : Int), ([] : List UInt8)⟩ : ValT)) hO eH225 rfl
                refine c137 n_ L180.v L180.vl S179.v x193 H29.size a178 24 24 r195 e196 _ _ _ (fr2 (pu3 (pu7 hO))) (fun H226 hO => ?_)
                replace hO := un2 hO
                refine ⟨r195.2.1, r195.2.2, rfl, ?_⟩
                refine ⟨(hO.blk (.tail _ (.tail _ (.head _)))).wr (Nat.le_of_ble_eq_true rfl), ?_⟩
                intro H227 eH227
                replace hO := oz2 (l' := encVal r195.2.1) hO eH227 rfl
                refine ⟨_, _, rfl, g192.1, g192.2.1, rfl, ?_⟩
                refine ⟨x191, ((hO.arr (.tail _ (.tail _ (.tail _ (.tail _ (.tail _ (.tail _ (.tail _ (.head _))))))))).rd (i := Int.toNat x183) (j := 0) lenI (appGet g192.2.2) (by decide) (zo0 _) rfl), ?_⟩
                refine ⟨r195.2.1, (hO.blk (.tail _ (.tail _ (.head _)))).rowT rfl, ?_⟩
                obtain ⟨x228, g229, h⟩ := getS h
                refine ⟨_, _, rfl, g229.1, g229.2.1, rfl, ?_⟩
                refine ⟨((hO.arr (.tail _ (.head _))).wr1 lenVal (i := Int.toNat x191) (j := 0) (getLt g229.2.2) (Nat.le_of_ble_eq_true rfl) (zo0 _)), ?_⟩
                intro H230 eH230
                replace hO := oz1 (l' := List.flatMap encVal (List.set a178 (Int.toNat x191) r195.2.1)) hO eH230 (flat_put1 lenVal (i := Int.toNat x191) (x := r195.2.1) (getLt g229.2.2) (Nat.zero_add _))
                obtain ⟨q231, h⟩ := ckS h
                refine ⟨_, .inl ⟨q231, rfl⟩, ?_⟩
                replace hO := close_KM L180 ({ S179 with v := r195.1 }) (pu5 (pu2 (pu5 (pu5 hO))))
                replace hO := dr4 (pu4 (pu4 (pu1 (pu0 hO))))
                subst hrec184
                exact lst_step hm185 ⟨(List.set a178 (Int.toNat x191) r195.2.1), ({ S179 with v := r195.1 }), L180, hO, h⟩


            · intro H232 eH232
              replace hO := own_new (l := encVal (⟨(0 : Int), (0 : Int), ([] : List UInt8)⟩ : ValT)) hO eH232 rfl
              refine ⟨x191, ((hO.arr (.tail _ (.tail _ (.tail _ (.tail _ (.tail _ (.tail _ (.head _)))))))).rd (i := Int.toNat x183) (j := 0) lenI (appGet g192.2.2) (by decide) (zo0 _) rfl), ?_⟩
              refine ⟨_, _, rfl, g194.1, g194.2.1, rfl, ?_⟩
              refine ⟨x193, ((hO.arr (.tail _ (.tail _ (.tail _ (.head _))))).rd (i := Int.toNat x191) (j := 0) lenStr g194.2.2 (by decide) (zo0 _) rfl), ?_⟩
              refine c137 n_ L180.v L180.vl S179.v x193 H29.size a178 24 24 r195 e196 _ _ _ (fr2 (pu3 (pu7 hO))) (fun H233 hO => ?_)
              replace hO := un2 hO
              refine ⟨r195.2.1, r195.2.2, rfl, ?_⟩
              refine ⟨(hO.blk (.tail _ (.tail _ (.head _)))).wr (Nat.le_of_ble_eq_true rfl), ?_⟩
              intro H234 eH234
              replace hO := oz2 (l' := encVal r195.2.1) hO eH234 rfl
              refine ⟨_, _, rfl, g192.1, g192.2.1, rfl, ?_⟩
              refine ⟨x191, ((hO.arr (.tail _ (.tail _ (.tail _ (.tail _ (.tail _ (.tail _ (.tail _ (.head _))))))))).rd (i := Int.toNat x183) (j := 0) lenI (appGet g192.2.2) (by decide) (zo0 _) rfl), ?_⟩
              refine ⟨r195.2.1, (hO.blk (.tail _ (.tail _ (.head _)))).rowT rfl, ?_⟩
              obtain ⟨x235, g236, h⟩ := getS h
              refine ⟨_, _, rfl, g236.1, g236.2.1, rfl, ?_⟩
              refine ⟨((hO.arr (.tail _ (.head _))).wr1 lenVal (i := Int.toNat x191) (j := 0) (getLt g236.2.2) (Nat.le_of_ble_eq_true rfl) (zo0 _)), ?_⟩
              intro H237 eH237
              replace hO := oz1 (l' := List.flatMap encVal (List.set a178 (Int.toNat x191) r195.2.1)) hO eH237 (flat_put1 lenVal (i := Int.toNat x191) (x := r195.2.1) (getLt g236.2.2) (Nat.zero_add _))
              obtain ⟨q238, h⟩ := ckS h
              refine ⟨_, .inl ⟨q238, rfl⟩, ?_⟩
              replace hO := close_KM L180 ({ S179 with v := r195.1 }) (pu5 (pu2 (pu5 (pu5 hO))))
              replace hO := dr4 (pu4 (pu4 (pu1 (pu0 hO))))
              subst hrec184
              exact lst_step hm185 ⟨(List.set a178 (Int.toNat x191) r195.2.1), ({ S179 with v := r195.1 }), L180, hO, h⟩


          · refine ⟨x191, ((hO.arr (.tail _ (.tail _ (.tail _ (.tail _ (.tail _ (.head _))))))).rd (i := Int.toNat x183) (j := 0) lenI (appGet g192.2.2) (by decide) (zo0 _) rfl), ?_⟩
            refine ⟨?_, ?_⟩
            · refine ⟨(some ⟨L180.raw, 0, none⟩), 24, 24, ((hO.blk (.head _)).rdv rfl), ?_⟩
              refine ⟨_, _, rfl, g194.1, g194.2.1, rfl, ?_⟩
              refine ⟨x193, ((hO.arr (.tail _ (.tail _ (.head _)))).rd (i := Int.toNat x191) (j := 0) lenStr g194.2.2 (by decide) (zo0 _) rfl), ?_⟩
              refine ⟨?_, ?_⟩
              · refine c137 n_ L180.v L180.vl S179.v x193 H29.size a178 24 24 r195 e196 _ _ _ (fr2 (pu2 (pu6 hO))) (fun H248 hO => ?_)
                replace hO := un2 hO
                refine ⟨r195.2.1, r195.2.2, rfl, ?_⟩
                intro H249 eH249
                replace hO := own_new (l := encVal (⟨(0 : Int), (0 : Int), ([] : List UInt8)⟩ : ValT)) hO eH249 rfl
                refine ⟨(hO.blk (.head _)).wr (Nat.le_of_ble_eq_true rfl), ?_⟩
                intro H250 eH250
                replace hO := oz0 (l' := encVal r195.2.1) hO eH250 rfl
                refine ⟨_, _, rfl, g192.1, g192.2.1, rfl, ?_⟩
                refine ⟨x191, ((hO.arr (.tail _ (.tail _ (.tail _ (.tail _ (.tail _ (.tail _ (.tail _ (.head _))))))))).rd (i := Int.toNat x183) (j := 0) lenI (appGet g192.2.2) (by decide) (zo0 _) rfl), ?_⟩
                refine ⟨r195.2.1, (hO.blk (.head _)).rowT rfl, ?_⟩
                obtain ⟨x251, g252, h⟩ := getS h
                refine ⟨_, _, rfl, g252.1, g252.2.1, rfl, ?_⟩
                refine ⟨((hO.arr (.tail _ (.tail _ (.head _)))).wr1 lenVal (i := Int.toNat x191) (j := 0) (getLt g252.2.2) (Nat.le_of_ble_eq_true rfl) (zo0 _)), ?_⟩
                intro H253 eH253
                replace hO := oz2 (l' := List.flatMap encVal (List.set a178 (Int.toNat x191) r195.2.1)) hO eH253 (flat_put1 lenVal (i := Int.toNat x191) (x := r195.2.1) (getLt g252.2.2) (Nat.zero_add _))
                obtain ⟨q254, h⟩ := ckS h
                refine ⟨_, .inl ⟨q254, rfl⟩, ?_⟩
                replace hO := close_KM L180 ({ S179 with v := r195.1 }) (pu5 (pu3 (pu5 (pu5 hO))))
                replace hO := dr4 (pu4 (pu4 (pu2 (pu0 hO))))
                subst hrec184
                exact lst_step hm185 ⟨(List.set a178 (Int.toNat x191) r195.2.1), ({ S179 with v := r195.1 }), L180, hO, h⟩

              · intro H255 eH255
                replace hO := own_new (l := encVal (⟨(0 : Int), (0 : Int), ([] : List UInt8)⟩ : ValT)) hO eH255 rfl
                refine c137 n_ L180.v L180.vl S179.v x193 H29.size a178 24 24 r195 e196 _ _ _ (fr2 (pu3 (pu7 hO))) (fun H256 hO => ?_)
                replace hO := un2 hO
                refine ⟨r195.2.1, r195.2.2, rfl, ?_⟩
                refine ⟨(hO.blk (.tail _ (.tail _ (.head _)))).wr (Nat.le_of_ble_eq_true rfl), ?_⟩
                intro H257 eH257
                replace hO := oz2 (l' := encVal r195.2.1) hO eH257 rfl
                refine ⟨_, _, rfl, g192.1, g192.2.1, rfl, ?_⟩
                refine ⟨x191, ((hO.arr (.tail _ (.tail _ (.tail _ (.tail _ (.tail _ (.tail _ (.tail _ (.head _))))))))).rd (i := Int.toNat x183) (j := 0) lenI (appGet g192.2.2) (by decide) (zo0 _) rfl), ?_⟩
                refine ⟨r195.2.1, (hO.blk (.tail _ (.tail _ (.head _)))).rowT rfl, ?_⟩
                obtain ⟨x258, g259, h⟩ := getS h
                refine ⟨_, _, rfl, g259.1, g259.2.1, rfl, ?_⟩
                refine ⟨((hO.arr (.tail _ (.head _))).wr1 lenVal (i := Int.toNat x191) (j := 0) (getLt g259.2.2) (Nat.le_of_ble_eq_true rfl) (zo0 _)), ?_⟩
                intro H260 eH260
                replace hO := oz1 (l' := List.flatMap encVal (List.set a178 (Int.toNat x191) r195.2.1)) hO eH260 (flat_put1 lenVal (i := Int.toNat x191) (x := r195.2.1) (getLt g259.2.2) (Nat.zero_add _))
                obtain ⟨q261, h⟩ := ckS h
                refine ⟨_, .inl ⟨q261, rfl⟩, ?_⟩
                replace hO := close_KM L180 ({ S179 with v := r195.1 }) (pu5 (pu2 (pu5 (pu5 hO))))
                replace hO := dr4 (pu4 (pu4 (pu1 (pu0 hO))))
                subst hrec184
                exact lst_step hm185 ⟨(List.set a178 (Int.toNat x191) r195.2.1), ({ S179 with v := r195.1 }), L180, hO, h⟩


            · intro H262 eH262
              replace hO := own_new (l := encVal (⟨(0 : Int), (0 : Int), ([] : List UInt8)⟩ : ValT)) hO eH262 rfl
              refine ⟨(some ⟨L180.raw, 0, none⟩), 24, 24, ((hO.blk (.tail _ (.head _))).rdv rfl), ?_⟩
              refine ⟨_, _, rfl, g194.1, g194.2.1, rfl, ?_⟩
              refine ⟨x193, ((hO.arr (.tail _ (.tail _ (.tail _ (.head _))))).rd (i := Int.toNat x191) (j := 0) lenStr g194.2.2 (by decide) (zo0 _) rfl), ?_⟩
              refine c137 n_ L180.v L180.vl S179.v x193 H29.size a178 24 24 r195 e196 _ _ _ (fr2 (pu3 (pu7 hO))) (fun H263 hO => ?_)
              replace hO := un2 hO
              refine ⟨r195.2.1, r195.2.2, rfl, ?_⟩
              refine ⟨(hO.blk (.tail _ (.tail _ (.head _)))).wr (Nat.le_of_ble_eq_true rfl), ?_⟩
              intro H264 eH264
              replace hO := oz2 (l' := encVal r195.2.1) hO eH264 rfl
              refine ⟨_, _, rfl, g192.1, g192.2.1, rfl, ?_⟩
              refine ⟨x191, ((hO.arr (.tail _ (.tail _ (.tail _ (.tail _ (.tail _ (.tail _ (.tail _ (.head _))))))))).rd (i := Int.toNat x183) (j := 0) lenI (appGet g192.2.2) (by decide) (zo0 _) rfl), ?_⟩
              refine ⟨r195.2.1, (hO.blk (.tail _ (.tail _ (.head _)))).rowT rfl, ?_⟩
              obtain ⟨x265, g266, h⟩ := getS h
              refine ⟨_, _, rfl, g266.1, g266.2.1, rfl, ?_⟩
              refine ⟨((hO.arr (.tail _ (.head _))).wr1 lenVal (i := Int.toNat x191) (j := 0) (getLt g266.2.2) (Nat.le_of_ble_eq_true rfl) (zo0 _)), ?_⟩
              intro H267 eH267
              replace hO := oz1 (l' := List.flatMap encVal (List.set a178 (Int.toNat x191) r195.2.1)) hO eH267 (flat_put1 lenVal (i := Int.toNat x191) (x := r195.2.1) (getLt g266.2.2) (Nat.zero_add _))
              obtain ⟨q268, h⟩ := ckS h
              refine ⟨_, .inl ⟨q268, rfl⟩, ?_⟩
              replace hO := close_KM L180 ({ S179 with v := r195.1 }) (pu5 (pu2 (pu5 (pu5 hO))))
              replace hO := dr4 (pu4 (pu4 (pu1 (pu0 hO))))
              subst hrec184
              exact lst_step hm185 ⟨(List.set a178 (Int.toNat x191) r195.2.1), ({ S179 with v := r195.1 }), L180, hO, h⟩


          · intro H269 eH269
            replace hO := own_new (l := encVal (⟨(0 : Int), (0 : Int), ([] : List UInt8)⟩ : ValT)) hO eH269 rfl
            refine ⟨?_, ?_⟩
            · refine ⟨(some ⟨L180.raw, 0, none⟩), 24, 24, ((hO.blk (.tail _ (.head _))).rdv rfl), ?_⟩
              refine ⟨x191, ((hO.arr (.tail _ (.tail _ (.tail _ (.tail _ (.tail _ (.tail _ (.head _)))))))).rd (i := Int.toNat x183) (j := 0) lenI (appGet g192.2.2) (by decide) (zo0 _) rfl), ?_⟩
              refine ⟨_, _, rfl, g194.1, g194.2.1, rfl, ?_⟩
              refine ⟨x193, ((hO.arr (.tail _ (.tail _ (.tail _ (.head _))))).rd (i := Int.toNat x191) (j := 0) lenStr g194.2.2 (by decide) (zo0 _) rfl), ?_⟩
              refine c137 n_ L180.v L180.vl S179.v x193 H29.size a178 24 24 r195 e196 _ _ _ (fr2 (pu3 (pu7 hO))) (fun H272 hO => ?_)
              replace hO := un2 hO
              refine ⟨r195.2.1, r195.2.2, rfl, ?_⟩
              refine ⟨(hO.blk (.tail _ (.tail _ (.head _)))).wr (Nat.le_of_ble_eq_true rfl), ?_⟩
              intro H273 eH273
              replace hO := oz2 (l' := encVal r195.2.1) hO eH273 rfl
              refine ⟨_, _, rfl, g192.1, g192.2.1, rfl, ?_⟩
              refine ⟨x191, ((hO.arr (.tail _ (.tail _ (.tail _ (.tail _ (.tail _ (.tail _ (.tail _ (.head _))))))))).rd (i := Int.toNat x183) (j := 0) lenI (appGet g192.2.2) (by decide) (zo0 _) rfl), ?_⟩
              refine ⟨r195.2.1, (hO.blk (.tail _ (.tail _ (.head _)))).rowT rfl, ?_⟩
              obtain ⟨x274, g275, h⟩ := getS h
              refine ⟨_, _, rfl, g275.1, g275.2.1, rfl, ?_⟩
              refine ⟨((hO.arr (.tail _ (.head _))).wr1 lenVal (i := Int.toNat x191) (j := 0) (getLt g275.2.2) (Nat.le_of_ble_eq_true rfl) (zo0 _)), ?_⟩
              intro H276 eH276
              replace hO := oz1 (l' := List.flatMap encVal (List.set a178 (Int.toNat x191) r195.2.1)) hO eH276 (flat_put1 lenVal (i := Int.toNat x191) (x := r195.2.1) (getLt g275.2.2) (Nat.zero_add _))
              obtain ⟨q277, h⟩ := ckS h
              refine ⟨_, .inl ⟨q277, rfl⟩, ?_⟩
              replace hO := close_KM L180 ({ S179 with v := r195.1 }) (pu5 (pu2 (pu5 (pu5 hO))))
              replace hO := dr4 (pu4 (pu4 (pu1 (pu0 hO))))
              subst hrec184
              exact lst_step hm185 ⟨(List.set a178 (Int.toNat x191) r195.2.1), ({ S179 with v := r195.1 }), L180, hO, h⟩

            · refine ⟨x191, ((hO.arr (.tail _ (.tail _ (.tail _ (.tail _ (.tail _ (.tail _ (.head _)))))))).rd (i := Int.toNat x183) (j := 0) lenI (appGet g192.2.2) (by decide) (zo0 _) rfl), ?_⟩
              refine ⟨(some ⟨L180.raw, 0, none⟩), 24, 24, ((hO.blk (.tail _ (.head _))).rdv rfl), ?_⟩
              refine ⟨_, _, rfl, g194.1, g194.2.1, rfl, ?_⟩
              refine ⟨x193, ((hO.arr (.tail _ (.tail _ (.tail _ (.head _))))).rd (i := Int.toNat x191) (j := 0) lenStr g194.2.2 (by decide) (zo0 _) rfl), ?_⟩
              refine c137 n_ L180.v L180.vl S179.v x193 H29.size a178 24 24 r195 e196 _ _ _ (fr2 (pu3 (pu7 hO))) (fun H278 hO => ?_)
              replace hO := un2 hO
              refine ⟨r195.2.1, r195.2.2, rfl, ?_⟩
              refine ⟨(hO.blk (.tail _ (.tail _ (.head _)))).wr (Nat.le_of_ble_eq_true rfl), ?_⟩
              intro H279 eH279
              replace hO := oz2 (l' := encVal r195.2.1) hO eH279 rfl
              refine ⟨_, _, rfl, g192.1, g192.2.1, rfl, ?_⟩
              refine ⟨x191, ((hO.arr (.tail _ (.tail _ (.tail _ (.tail _ (.tail _ (.tail _ (.tail _ (.head _))))))))).rd (i := Int.toNat x183) (j := 0) lenI (appGet g192.2.2) (by decide) (zo0 _) rfl), ?_⟩
              refine ⟨r195.2.1, (hO.blk (.tail _ (.tail _ (.head _)))).rowT rfl, ?_⟩
              obtain ⟨x280, g281, h⟩ := getS h
              refine ⟨_, _, rfl, g281.1, g281.2.1, rfl, ?_⟩
              refine ⟨((hO.arr (.tail _ (.head _))).wr1 lenVal (i := Int.toNat x191) (j := 0) (getLt g281.2.2) (Nat.le_of_ble_eq_true rfl) (zo0 _)), ?_⟩
              intro H282 eH282
              replace hO := oz1 (l' := List.flatMap encVal (List.set a178 (Int.toNat x191) r195.2.1)) hO eH282 (flat_put1 lenVal (i := Int.toNat x191) (x := r195.2.1) (getLt g281.2.2) (Nat.zero_add _))
              obtain ⟨q283, h⟩ := ckS h
              refine ⟨_, .inl ⟨q283, rfl⟩, ?_⟩
              replace hO := close_KM L180 ({ S179 with v := r195.1 }) (pu5 (pu2 (pu5 (pu5 hO))))
              replace hO := dr4 (pu4 (pu4 (pu1 (pu0 hO))))
              subst hrec184
              exact lst_step hm185 ⟨(List.set a178 (Int.toNat x191) r195.2.1), ({ S179 with v := r195.1 }), L180, hO, h⟩



        · replace h := ifFd w187 h
          replace hO := open_KM (pu3 hO)
          refine ⟨(hO.blk (.head _)).wr (Nat.le_of_ble_eq_true rfl), ?_⟩
          intro H284 eH284
          replace hO := os0 (l' := [Value.pointer (some ⟨L180.v, 0, none⟩), Value.slice (some ⟨L180.raw, 0, none⟩) 24 24, Value.slice (some ⟨H29.size, 0, none⟩) 24 24, I S179.sets]) hO eH284 rfl
          replace hO := close_KM ({ L180 with shown := H29.size }) ({ S179 with shown := a178 }) (pu3 (pu3 (pu3 (pu6 hO))))
          obtain rfl := Option.some.inj h
          exact hR _ ({ L180 with shown := H29.size }) (dr1 (dr1 (dr1 (hO))))






theorem c93 (n_ : Nat) (z0 : Nat) (L0 : KML) (S0 : KMS) (z1 : Int) (z2 : List UInt8) (r_ : KMS × Int) (h : s93 n_ S0 z1 z2 = some r_) (F : List Ent) (H : Heap) (R : Value → Heap → Prop)
    (hO : Own H [oKM z0 L0 S0] F)
    (hR : ∀ (H' : Heap) (L0' : KML), Own H' [oKM z0 (L0') r_.1] F → R (I r_.2) H') :
    HCalls Tryz.prog 93 #[Value.pointer (some ⟨z0, 0, none⟩), I z1, str z2] H R := by
  refine vc93 z0 z1 z2 H R ?_
  unfold s93 at h
  replace hO := open_KM (pu0 hO)
  refine ⟨S0.sets, ((hO.blk (.head _)).rdv rfl), ?_⟩
  refine ⟨_, .inr rfl, ?_⟩
  refine ⟨(hO.blk (.head _)).wr (Nat.le_of_ble_eq_true rfl), ?_⟩
  intro H21 eH21
  replace hO := os0 (l' := [Value.pointer (some ⟨L0.v, 0, none⟩), Value.slice (some ⟨L0.raw, 0, none⟩) 24 24, Value.slice (some ⟨L0.shown, 0, none⟩) 24 24, I (IntKind.wrap .i64 (S0.sets + (1 : Int)))]) hO eH21 rfl
  refine ⟨fun w22 => ?_, fun w23 => ?_⟩
  · replace h := ifTd w22 h
    replace hO := close_KM L0 ({ S0 with sets := (IntKind.wrap .i64 (S0.sets + (1 : Int))) }) (hO)
    obtain rfl := Option.some.inj h
    exact hR _ L0 hO

  · replace h := ifFd w23 h
    refine ⟨fun w25 => ?_, fun w24 => ?_⟩
    · replace h := ifFd w25 h
      refine ⟨fun w26 => ?_, fun w27 => ?_⟩
      · replace h := ifTd w26 h
        replace hO := close_KM L0 ({ S0 with sets := (IntKind.wrap .i64 (S0.sets + (1 : Int))) }) (hO)
        obtain rfl := Option.some.inj h
        exact hR _ L0 hO

      · replace h := ifFd w27 h
        refine ⟨(some ⟨L0.raw, 0, none⟩), 24, 24, ((hO.blk (.head _)).rdv rfl), ?_⟩
        obtain ⟨x28, g29, h⟩ := getS h
        refine ⟨_, _, rfl, g29.1, g29.2.1, rfl, ?_⟩
        refine ⟨((hO.arr (.tail _ (.tail _ (.head _)))).wr1 lenStr (i := Int.toNat z1) (j := 0) (getLt g29.2.2) (Nat.le_of_ble_eq_true rfl) (zo0 _)), ?_⟩
        intro H30 eH30
        replace hO := os2 (l' := List.flatMap encS (List.set S0.raw (Int.toNat z1) z2)) hO eH30 (flat_set1 lenStr (i := Int.toNat z1) (j := 0) g29.2.2 (by decide) (zo0 _) rfl)
        replace hO := close_KM L0 ({ S0 with raw := (List.set S0.raw (Int.toNat z1) z2), sets := (IntKind.wrap .i64 (S0.sets + (1 : Int))) }) (hO)
        obtain ⟨r31, e32, h⟩ := bindS h
        refine c114 n_ z0 L0 ({ S0 with raw := (List.set S0.raw (Int.toNat z1) z2), sets := (IntKind.wrap .i64 (S0.sets + (1 : Int))) }) r31 e32 _ _ _ (fr1 hO) (fun H33 L34 hO => ?_)
        replace hO := un1 hO
        obtain rfl := Option.some.inj h
        exact hR _ L34 hO


    · replace h := ifTd w24 h
      replace hO := close_KM L0 ({ S0 with sets := (IntKind.wrap .i64 (S0.sets + (1 : Int))) }) (hO)
      obtain rfl := Option.some.inj h
      exact hR _ L0 hO




theorem c74 (n_ : Nat) (z0 : Nat) (L0 : EML) (S0 : EMS) (z1 : Int) (z2 : List UInt8) (r_ : EMS × Int) (h : s74 n_ S0 z1 z2 = some r_) (F : List Ent) (H : Heap) (R : Value → Heap → Prop)
    (hO : Own H [oEM z0 L0 S0] F)
    (hR : ∀ (H' : Heap) (L0' : EML), Own H' [oEM z0 (L0') r_.1] F → R (I r_.2) H') :
    HCalls Tryz.prog 74 #[Value.pointer (some ⟨z0, 0, none⟩), I z1, str z2] H R := by
  refine vc74 z0 z1 z2 H R ?_
  unfold s74 at h
  replace hO := open_EM (pu0 hO)
  refine ⟨S0.sets, ((hO.blk (.head _)).rdv rfl), ?_⟩
  refine ⟨_, .inr rfl, ?_⟩
  refine ⟨(hO.blk (.head _)).wr (Nat.le_of_ble_eq_true rfl), ?_⟩
  intro H21 eH21
  replace hO := os0 (l' := [Value.pointer (some ⟨L0.f, 0, none⟩), Value.pointer (some ⟨L0.k, 0, none⟩), I (IntKind.wrap .i64 (S0.sets + (1 : Int)))]) hO eH21 rfl
  refine ⟨fun w22 => ?_, fun w23 => ?_⟩
  · replace h := ifTd w22 h
    replace hO := close_EM L0 ({ S0 with sets := (IntKind.wrap .i64 (S0.sets + (1 : Int))) }) (hO)
    obtain rfl := Option.some.inj h
    exact hR _ L0 hO

  · replace h := ifFd w23 h
    refine ⟨L0.k, ((hO.blk (.head _)).rdv rfl), ?_⟩
    obtain ⟨r24, e25, h⟩ := bindS h
    refine c93 n_ L0.k L0.kl S0.k z1 z2 r24 e25 _ _ _ (fr1 (pu2 hO)) (fun H26 L27 hO => ?_)
    replace hO := un1 hO
    refine ⟨r24.2, rfl, ?_⟩
    replace hO := close_EM ({ L0 with kl := L27 }) ({ S0 with k := r24.1, sets := (IntKind.wrap .i64 (S0.sets + (1 : Int))) }) (pu2 (pu2 (pu0 hO)))
    obtain rfl := Option.some.inj h
    exact hR _ ({ L0 with kl := L27 }) hO



theorem c75 (z0 : Nat) (L0 : BML) (S0 : BMS) (b1 : Nat) (a1 : List (List UInt8)) (r_ : BMS) (h : s75 S0 a1 = some r_) (F : List Ent) (H : Heap) (R : Value → Heap → Prop)
    (hO : Own H [oBM z0 L0 S0, cellE 9 b1 (List.flatMap encS a1)] F)
    (hR : ∀ (H' : Heap) (L0' : BML), Own H' [oBM z0 L0' r_] F → R (.tuple #[]) H') :
    HCalls Tryz.prog 75 #[Value.pointer (some ⟨z0, 0, none⟩), Value.slice (some ⟨b1, 0, none⟩) 24 24] H R := by
  refine vc75 z0 (some ⟨b1, 0, none⟩) 24 24 H R ?_
  unfold s75 at h
  obtain ⟨hm, h⟩ := ckS h
  obtain rfl := Option.some.inj h
  replace hO := open_BM hO
  -- own, e, past, next, was
  obtain ⟨a, k, hv⟩ := Gsl_val (pu2 hO)
  refine ⟨a, S0.past.length, k, (hO.blk (.head _)).rdv (by rw [← hv]; rfl), ?_⟩
  intro H4 e4
  have hP : Own H [Gch L0.past S0.past, cellE 9 b1 (List.flatMap encS a1), cellE 53 z0 [Value.pointer (some ⟨L0.e, 0, none⟩), Value.slice a S0.past.length k, Gsl L0.next S0.next], oEM L0.e L0.el S0.e, Gch L0.next S0.next] F := by
    rw [hv] at hO; exact pu3 (pu4 hO)
  have key : ∀ (L' : SnL) (a' : Option Addr) (k' : Nat) (H' : Heap), Gsl L' (S0.past ++ [a1]) = .slice a' (S0.past.length + 1) k' →
      Own H' [Gch L' (S0.past ++ [a1]), cellE 53 z0 [Value.pointer (some ⟨L0.e, 0, none⟩), Value.slice a S0.past.length k, Gsl L0.next S0.next], oEM L0.e L0.el S0.e, Gch L0.next S0.next] F →
      q75 z0 R a' (S0.past.length + 1) k' H' := by
    intro L' a' k' H' hv' hO'
    refine ⟨(hO'.blk (.tail _ (.head _))).wr (Nat.le_of_ble_eq_true rfl), fun H12 e12 => ?_⟩
    have hQ := os1 (l' := [Value.pointer (some ⟨L0.e, 0, none⟩), Value.slice a' (S0.past.length + 1) k', Gsl L0.next S0.next]) hO' e12 rfl
    refine ⟨fun l Hc => ∃ LP, Own Hc [cellE 53 z0 [Value.pointer (some ⟨L0.e, 0, none⟩), Gsl LP (if 6 < S0.past.length + 1 then (S0.past ++ [a1]).tail else S0.past ++ [a1]), Gsl L0.next S0.next], Gch LP (if 6 < S0.past.length + 1 then (S0.past ++ [a1]).tail else S0.past ++ [a1]), oEM L0.e L0.el S0.e, Gch L0.next S0.next] F, ⟨a', S0.past.length + 1, k', (hQ.blk (.tail _ (.head _))).rdv rfl, fun w => ?_, fun w => ?_⟩, ?_⟩
    · have w := of_decide_eq_true w
      have w' : 6 < S0.past.length + 1 := by omega
      rw [if_pos w']
      obtain ⟨s, S, hs⟩ : ∃ s S, S0.past ++ [a1] = s :: S := by
        cases hh : S0.past ++ [a1] with
        | nil => simp at hh
        | cons s S => exact ⟨s, S, rfl⟩
      have hl : (S0.past ++ [a1]).length = S.length + 1 := by rw [hs]; rfl
      simp only [List.length_append, List.length_cons, List.length_nil] at hl
      rw [hs] at hQ hv'
      obtain ⟨b, o, rfl, h1, h2, L2, h3, h4⟩ := G_drop1 hQ hv'
      refine ⟨some ⟨b, o, none⟩, S0.past.length + 1, k', (hQ.blk (.tail _ (.head _))).rdv rfl, b, o, rfl, by decide, by omega, by omega, (hQ.blk (.tail _ (.head _))).wr (Nat.le_of_ble_eq_true rfl), fun H22 e22 => ?_⟩
      have hU := os1 (l' := [Value.pointer (some ⟨L0.e, 0, none⟩), Value.slice (some ⟨b, o + 1, none⟩) S.length (k' - 1), Gsl L0.next S0.next]) h4 e22 (by
        have : S.length = S0.past.length + 1 - 1 := by omega
        rw [this]; rfl)
      rw [hs, List.tail_cons]
      refine ⟨L2, ?_⟩
      rw [← h3] at hU
      exact pu1 hU
    · have w := of_decide_eq_false w
      have w' : ¬ 6 < S0.past.length + 1 := by omega
      rw [if_neg w']
      refine ⟨L', ?_⟩
      rw [hv']
      exact pu1 hQ
    · intro H23 u24 hM
      obtain ⟨LP, hM⟩ := hM
      refine ⟨(hM.blk (.head _)).wr (Nat.le_of_ble_eq_true rfl), fun H25 e25 => ?_⟩
      have hU := os0 (l' := [Value.pointer (some ⟨L0.e, 0, none⟩), Gsl LP (if 6 < S0.past.length + 1 then (S0.past ++ [a1]).tail else S0.past ++ [a1]), Value.slice none 0 0]) hM e25 rfl
      have hV := own_nil (dr3 hU)
      refine hR _ ⟨L0.e, L0.el, LP, SnL.nil⟩ (close_BM ⟨L0.e, L0.el, LP, SnL.nil⟩ _ ?_)
      have hW := pu3 (pu3 (pu2 hV))
      exact hW
  refine G_push (Q := q75 z0 R) hP hv (by omega) e4 ?_
  intro L' a' k' H' h1 h2 _
  exact key L' a' k' H' h1 h2

theorem c49 (n_ : Nat) (z0 : Nat) (L0 : BML) (S0 : BMS) (z1 : Int) (z2 : List UInt8) (r_ : BMS × Int) (h : s49 n_ S0 z1 z2 = some r_) (F : List Ent) (H : Heap) (R : Value → Heap → Prop)
    (hO : Own H [oBM z0 L0 S0] F)
    (hR : ∀ (H' : Heap) (L0' : BML), Own H' [oBM z0 (L0') r_.1] F → R (I r_.2) H') :
    HCalls Tryz.prog 49 #[Value.pointer (some ⟨z0, 0, none⟩), I z1, str z2] H R := by
  refine vc49 z0 z1 z2 H R ?_
  unfold s49 at h
  refine ⟨fun w21 => ?_, fun w22 => ?_⟩
  · replace h := ifTd w21 h
    obtain rfl := Option.some.inj h
    exact hR _ L0 hO

  · replace h := ifFd w22 h
    obtain ⟨r23, e24, h⟩ := bindS h
    refine c73 n_ z0 L0 S0 r23 e24 _ _ _ (fr1 hO) (fun H25 b26 hO => ?_)
    replace hO := un2 hO
    refine ⟨(some ⟨b26, 0, none⟩), 24, 24, rfl, ?_⟩
    replace hO := open_BM (pu0 hO)
    refine ⟨L0.e, ((hO.blk (.head _)).rdv rfl), ?_⟩
    obtain ⟨r28, e29, h⟩ := bindS h
    refine c74 n_ L0.e L0.el S0.e z1 z2 r28 e29 _ _ _ (fr1 (pu1 hO)) (fun H30 L31 hO => ?_)
    replace hO := un1 hO
    refine ⟨r28.2, rfl, ?_⟩
    refine ⟨fun w32 => ?_, fun w33 => ?_⟩
    · replace h := ifTd w32 h
      replace hO := close_BM ({ L0 with el := L31 }) ({ S0 with e := r28.1 }) (pu3 (pu2 (pu3 (pu3 hO))))
      obtain ⟨r34, e35, h⟩ := bindS h
      refine c75 z0 ({ L0 with el := L31 }) ({ S0 with e := r28.1 }) b26 r23 r34 e35 _ _ _ (fr2 hO) (fun H36 L37 hO => ?_)
      replace hO := un1 hO
      obtain rfl := Option.some.inj h
      exact hR _ L37 hO

    · replace h := ifFd w33 h
      replace hO := close_BM ({ L0 with el := L31 }) ({ S0 with e := r28.1 }) (pu3 (pu2 (pu3 (pu3 hO))))
      obtain rfl := Option.some.inj h
      exact hR _ ({ L0 with el := L31 }) (dr1 (hO))




theorem c94 (z0 : Int) (z1 : Int) (r_ : Bool) (h : s94 z0 z1 = r_) (F : List Ent) (H : Heap) (R : Value → Heap → Prop)
    (hO : Own H [] F)
    (hR : ∀ (H' : Heap) , Own H' [] F → R (.bool r_) H') :
    HCalls Tryz.prog 94 #[I z0, I z1] H R := by
  refine vc94 z0 z1 H R ?_
  unfold s94 at h
  refine ⟨fun w22 => ?_, fun w21 => ?_⟩
  · replace h := ifFd w22 h
    refine ⟨fun w23 => ?_, fun w24 => ?_⟩
    · replace h := ifTd w23 h
      refine ⟨fun w25 => ?_, fun w26 => ?_⟩
      · replace h := ifTd w25 h
        subst h
        exact hR _ hO

      · replace h := ifFd w26 h
        subst h
        exact hR _ hO


    · replace h := ifFd w24 h
      refine ⟨fun w28 => ?_, fun w27 => ?_⟩
      · replace h := ifFd w28 h
        refine ⟨fun w29 => ?_, fun w30 => ?_⟩
        · replace h := ifTd w29 h
          refine ⟨fun w31 => ?_, fun w32 => ?_⟩
          · replace h := ifTd w31 h
            subst h
            exact hR _ hO

          · replace h := ifFd w32 h
            subst h
            exact hR _ hO


        · replace h := ifFd w30 h
          subst h
          exact hR _ hO


      · replace h := ifTd w27 h
        refine ⟨fun w33 => ?_, fun w34 => ?_⟩
        · replace h := ifTd w33 h
          subst h
          exact hR _ hO

        · replace h := ifFd w34 h
          subst h
          exact hR _ hO




  · replace h := ifTd w21 h
    refine ⟨fun w35 => ?_, fun w36 => ?_⟩
    · replace h := ifTd w35 h
      subst h
      exact hR _ hO

    · replace h := ifFd w36 h
      subst h
      exact hR _ hO




theorem c95 (z0 : Int) (z1 : Int) (r_ : GapT) (h : s95 z0 z1 = r_) (F : List Ent) (H : Heap) (R : Value → Heap → Prop)
    (hO : Own H [] F)
    (hR : ∀ (H' : Heap) , Own H' [] F → R (.agg ⟨encGap r_⟩) H') :
    HCalls Tryz.prog 95 #[I z0, I z1] H R := by
  refine vc95 z0 z1 H R ?_
  unfold s95 at h
  intro H21 eH21
  replace hO := own_new (l := encGap (⟨false, (0 : Int), (0 : Int), (0 : Int)⟩ : GapT)) hO eH21 rfl
  intro H22 eH22
  replace hO := own_new (l := encGap (⟨false, (0 : Int), (0 : Int), (0 : Int)⟩ : GapT)) hO eH22 rfl
  refine ⟨(hO.blk (.head _)).wr (Nat.le_of_ble_eq_true rfl), ?_⟩
  intro H23 eH23
  replace hO := oz0 (l' := encGap (⟨true, (6 : Int), z1, (1 : Int)⟩ : GapT)) hO eH23 rfl
  refine ⟨fun l Hc => ∃ t41 : GapT, Own Hc [cellE 128 H21.size (encGap t41), cellE 128 H.size (encGap (⟨false, (0 : Int), (0 : Int), (0 : Int)⟩ : GapT))] F ∧ (k95_1 z0 t41) = r_, ?_, ?_⟩
  · refine ⟨fun w54 => ?_, fun w53 => ?_⟩
    · replace h := ifFd w54 h
      refine ⟨fun w55 => ?_, fun w56 => ?_⟩
      · replace h := ifTd w55 h
        refine ⟨(hO.blk (.head _)).wr (Nat.le_of_ble_eq_true rfl), ?_⟩
        intro H57 eH57
        replace hO := os0 (l' := encGap (⟨false, (6 : Int), z1, (1 : Int)⟩ : GapT)) hO eH57 rfl
        refine ⟨(hO.blk (.head _)).wr (Nat.le_of_ble_eq_true rfl), ?_⟩
        intro H58 eH58
        replace hO := os0 (l' := encGap (⟨false, (4 : Int), z1, (1 : Int)⟩ : GapT)) hO eH58 rfl
        exact ⟨(⟨false, (4 : Int), z1, (1 : Int)⟩ : GapT), hO, h⟩

      · replace h := ifFd w56 h
        exact ⟨(⟨true, (6 : Int), z1, (1 : Int)⟩ : GapT), hO, h⟩


    · replace h := ifTd w53 h
      refine ⟨(hO.blk (.head _)).wr (Nat.le_of_ble_eq_true rfl), ?_⟩
      intro H59 eH59
      replace hO := os0 (l' := encGap (⟨false, (6 : Int), z1, (1 : Int)⟩ : GapT)) hO eH59 rfl
      refine ⟨(hO.blk (.head _)).wr (Nat.le_of_ble_eq_true rfl), ?_⟩
      intro H60 eH60
      replace hO := os0 (l' := encGap (⟨false, (4 : Int), z1, (1 : Int)⟩ : GapT)) hO eH60 rfl
      exact ⟨(⟨false, (4 : Int), z1, (1 : Int)⟩ : GapT), hO, h⟩


  · clear hO h
    intro H42 u43  hJ
    obtain ⟨t41, hO, h⟩ := hJ
    replace h : (k95_1 z0 t41) = r_ := h
    unfold k95_1 at h
    refine ⟨fun w45 => ?_, fun w44 => ?_⟩
    · replace h := ifFd w45 h
      refine ⟨fun w46 => ?_, fun w47 => ?_⟩
      · replace h := ifTd w46 h
        refine ⟨(hO.blk (.head _)).wr (Nat.le_of_ble_eq_true rfl), ?_⟩
        intro H48 eH48
        replace hO := os0 (l' := encGap ({ t41 with step := (-1 : Int) })) hO eH48 rfl
        refine ⟨{ t41 with step := (-1 : Int) }, (hO.blk (.head _)).rowT rfl, ?_⟩
        refine ⟨(hO.blk (.tail _ (.head _))).wr (Nat.le_of_ble_eq_true rfl), ?_⟩
        intro H49 eH49
        replace hO := oz1 (l' := encGap ({ t41 with step := (-1 : Int) })) hO eH49 rfl
        refine ⟨{ t41 with step := (-1 : Int) }, (hO.blk (.tail _ (.head _))).rowT rfl, ?_⟩
        subst h
        exact hR _ (dr0 (dr0 (hO)))

      · replace h := ifFd w47 h
        refine ⟨t41, (hO.blk (.head _)).rowT rfl, ?_⟩
        refine ⟨(hO.blk (.tail _ (.head _))).wr (Nat.le_of_ble_eq_true rfl), ?_⟩
        intro H50 eH50
        replace hO := oz1 (l' := encGap t41) hO eH50 rfl
        refine ⟨t41, (hO.blk (.tail _ (.head _))).rowT rfl, ?_⟩
        subst h
        exact hR _ (dr0 (dr0 (hO)))


    · replace h := ifTd w44 h
      refine ⟨(hO.blk (.head _)).wr (Nat.le_of_ble_eq_true rfl), ?_⟩
      intro H51 eH51
      replace hO := os0 (l' := encGap ({ t41 with step := (-1 : Int) })) hO eH51 rfl
      refine ⟨{ t41 with step := (-1 : Int) }, (hO.blk (.head _)).rowT rfl, ?_⟩
      refine ⟨(hO.blk (.tail _ (.head _))).wr (Nat.le_of_ble_eq_true rfl), ?_⟩
      intro H52 eH52
      replace hO := oz1 (l' := encGap ({ t41 with step := (-1 : Int) })) hO eH52 rfl
      refine ⟨{ t41 with step := (-1 : Int) }, (hO.blk (.tail _ (.head _))).rowT rfl, ?_⟩
      subst h
      exact hR _ (dr0 (dr0 (hO)))




theorem c96 (z0 : GapT) (z1 : Int) (r_ : Int) (h : s96 z0 z1 = some r_) (F : List Ent) (H : Heap) (R : Value → Heap → Prop)
    (hO : Own H [] F)
    (hR : ∀ (H' : Heap) , Own H' [] F → R (I r_) H') :
    HCalls Tryz.prog 96 #[Value.agg ⟨encGap z0⟩, I z1] H R := by
  refine vc96 z0 z1 H R ?_
  unfold s96 at h
  intro H21 eH21
  replace hO := own_new (l := encGap z0) hO eH21 rfl
  refine ⟨(by decide), ?_⟩
  obtain ⟨q22, h⟩ := ckS h
  refine ⟨(by decide), q22, ?_⟩
  refine ⟨fun l Hc => Own Hc [cellE 128 H.size (encGap z0)] F ∧ (k96_1 z0 z1 (asI (nth l 0))) = some r_, ?_, ?_⟩
  · refine ⟨z0.rows, ((hO.blk (.head _)).rdv rfl), ?_⟩
    refine ⟨fun w47 => ?_, fun w48 => ?_⟩
    · replace h := ifTb w47 h
      exact ⟨hO, h⟩

    · replace h := ifFb w48 h
      exact ⟨hO, h⟩


  · clear hO h
    intro H23 u24 x25 hJ
    obtain ⟨hO, h⟩ := hJ
    replace h : (k96_1 z0 z1 x25) = some r_ := h
    unfold k96_1 at h
    refine ⟨fun l Hc => Own Hc [cellE 128 H.size (encGap z0)] F ∧ (k96_0 z0 z1 (asI (nth l 0))) = some r_, ?_, ?_⟩
    · refine ⟨z0.at_, ((hO.blk (.head _)).rdv rfl), ?_⟩
      refine ⟨fun w35 => ?_, fun w36 => ?_⟩
      · replace h := ifTd w35 h
        refine ⟨z0.step, ((hO.blk (.head _)).rdv rfl), ?_⟩
        refine ⟨fun w37 => ?_, fun w38 => ?_⟩
        · replace h := ifTd w37 h
          refine ⟨z0.at_, ((hO.blk (.head _)).rdv rfl), ?_⟩
          refine ⟨fun w39 => ?_, fun w40 => ?_⟩
          · replace h := ifTd w39 h
            obtain rfl := Option.some.inj h
            exact hR _ (dr0 (hO))

          · replace h := ifFd w40 h
            refine ⟨z0.step, ((hO.blk (.head _)).rdv rfl), ?_⟩
            obtain ⟨q41, h⟩ := ckS h
            refine ⟨q41, ?_⟩
            refine ⟨z0.n, ((hO.blk (.head _)).rdv rfl), ?_⟩
            refine ⟨fun w42 => ?_, fun w43 => ?_⟩
            · replace h := ifTd w42 h
              obtain rfl := Option.some.inj h
              exact hR _ (dr0 (hO))

            · replace h := ifFd w43 h
              exact ⟨hO, h⟩



        · replace h := ifFd w38 h
          refine ⟨z0.step, ((hO.blk (.head _)).rdv rfl), ?_⟩
          obtain ⟨q44, h⟩ := ckS h
          refine ⟨q44, ?_⟩
          refine ⟨z0.n, ((hO.blk (.head _)).rdv rfl), ?_⟩
          refine ⟨fun w45 => ?_, fun w46 => ?_⟩
          · replace h := ifTd w45 h
            obtain rfl := Option.some.inj h
            exact hR _ (dr0 (hO))

          · replace h := ifFd w46 h
            exact ⟨hO, h⟩



      · replace h := ifFd w36 h
        exact ⟨hO, h⟩


    · clear hO h
      intro H26 u27 x28 hJ
      obtain ⟨hO, h⟩ := hJ
      replace h : (k96_0 z0 z1 x28) = some r_ := h
      unfold k96_0 at h
      refine ⟨z0.rows, ((hO.blk (.head _)).rdv rfl), ?_⟩
      refine ⟨fun w29 => ?_, fun w30 => ?_⟩
      · replace h := ifTb w29 h
        obtain ⟨q31, h⟩ := ckS h
        refine ⟨q31, ?_⟩
        obtain ⟨q32, h⟩ := ckS h
        refine ⟨_, .inl ⟨q32, rfl⟩, ?_⟩
        obtain rfl := Option.some.inj h
        exact hR _ (dr0 (hO))

      · replace h := ifFb w30 h
        obtain ⟨q33, h⟩ := ckS h
        refine ⟨q33, ?_⟩
        obtain ⟨q34, h⟩ := ckS h
        refine ⟨_, .inl ⟨q34, rfl⟩, ?_⟩
        obtain rfl := Option.some.inj h
        exact hR _ (dr0 (hO))





theorem c97 (n_ : Nat) (z0 : Nat) (L0 : EL) (S0 : ES) (z1 : List UInt8) (r_ : ES × TreeV × Bool) (h : s97 n_ S0 z1 = some r_) (F : List Ent) (H : Heap) (R : Value → Heap → Prop)
    (hO : Own H [oE z0 L0 S0] F)
    (hR : ∀ (H' : Heap) (a_1 : Option Addr) (c_1 : Nat) (C_1 : List Ent) (_ : SH 153 encNode r_.2.1.nodes a_1 r_.2.1.nodes.length C_1), Own H' [oE z0 L0 r_.1, C_1] F → R (.tuple #[.agg ⟨encTree ⟨a_1, r_.2.1.nodes.length, c_1, r_.2.1.root, r_.2.1.err, r_.2.1.pos⟩⟩, .bool r_.2.2]) H') :
    HCalls Tryz.prog 97 #[Value.pointer (some ⟨z0, 0, none⟩), str z1] H R := by
  refine vc97 z0 z1 H R ?_
  unfold s97 at h
  intro H21 eH21
  replace hO := own_new (l := [Value.slice none 0 0, I (0 : Int), I (0 : Int), I (0 : Int)]) hO eH21 rfl
  refine ⟨fun w22 => ?_, fun w23 => ?_⟩
  · replace h := ifTd w22 h
    refine ⟨(hO.blk (.head _)).wr (Nat.le_of_ble_eq_true rfl), ?_⟩
    intro H24 eH24
    replace hO := oz0 (l' := [Value.slice none 0 0, I (0 : Int), I (0 : Int), I (0 : Int)]) hO eH24 rfl
    refine ⟨(⟨none, 0, 0, (0 : Int), (0 : Int), (0 : Int)⟩ : TreeT), (hO.blk (.head _)).rowT rfl, ?_⟩
    replace hO := own_nil hO
    obtain rfl := Option.some.inj h
    exact hR _ none 0 [] shNil (dr2 (pu2 (pu0 hO)))

  · replace h := ifFd w23 h
    obtain ⟨q25, h⟩ := ckS h
    refine ⟨q25.1, q25.2, ?_⟩
    refine ⟨fun w26 => ?_, fun w27 => ?_⟩
    · replace w26 := bnotT w26
      replace h := ifFd w26 h
      refine ⟨(hO.blk (.head _)).wr (Nat.le_of_ble_eq_true rfl), ?_⟩
      intro H28 eH28
      replace hO := oz0 (l' := [Value.slice none 0 0, I (0 : Int), I (0 : Int), I (0 : Int)]) hO eH28 rfl
      refine ⟨(⟨none, 0, 0, (0 : Int), (0 : Int), (0 : Int)⟩ : TreeT), (hO.blk (.head _)).rowT rfl, ?_⟩
      replace hO := own_nil hO
      obtain rfl := Option.some.inj h
      exact hR _ none 0 [] shNil (dr2 (pu2 (pu0 hO)))

    · replace w27 := bnotF w27
      replace h := ifTd w27 h
      replace hO := open_E (pu1 hO)
      refine ⟨L0.f, ((hO.blk (.head _)).rdv rfl), ?_⟩
      obtain ⟨q29, h⟩ := ckS h
      refine ⟨q29.1, q29.2, ?_⟩
      obtain ⟨r30, e31, h⟩ := bindS h
      refine ⟨?_, ?_⟩
      · refine c115 n_ L0.f L0.fl S0.f (List.drop (Int.toNat (1 : Int)) z1) r30 e31 _ _ _ (fr1 (pu1 hO)) (fun H39 a40 k41 C42 hs43 hO => ?_)
        replace hO := un2 hO
        refine ⟨(⟨a40, r30.2.nodes.length, k41, r30.2.root, r30.2.err, r30.2.pos⟩ : TreeT), rfl, ?_⟩
        intro H44 eH44
        replace hO := own_new (l := [Value.slice none 0 0, I (0 : Int), I (0 : Int), I (0 : Int)]) hO eH44 rfl
        refine ⟨(hO.blk (.head _)).wr (Nat.le_of_ble_eq_true rfl), ?_⟩
        intro H45 eH45
        replace hO := oz0 (l' := [Value.slice a40 r30.2.nodes.length k41, I r30.2.root, I r30.2.err, I r30.2.pos]) hO eH45 rfl
        refine ⟨(⟨a40, r30.2.nodes.length, k41, r30.2.root, r30.2.err, r30.2.pos⟩ : TreeT), (hO.blk (.head _)).rowT rfl, ?_⟩
        refine ⟨?_, ?_⟩
        · refine ⟨r30.2.err, ((hO.blk (.head _)).rdv rfl), ?_⟩
          refine ⟨(hO.blk (.tail _ (.tail _ (.tail _ (.tail _ (.tail _ (.tail _ (.head _)))))))).wr (Nat.le_of_ble_eq_true rfl), ?_⟩
          intro H47 eH47
          replace hO := oz6 (l' := [Value.slice a40 r30.2.nodes.length k41, I r30.2.root, I r30.2.err, I r30.2.pos]) hO eH47 rfl
          refine ⟨(⟨a40, r30.2.nodes.length, k41, r30.2.root, r30.2.err, r30.2.pos⟩ : TreeT), (hO.blk (.tail _ (.tail _ (.tail _ (.tail _ (.tail _ (.tail _ (.head _)))))))).rowT rfl, ?_⟩
          replace hO := close_E L0 ({ S0 with f := r30.1 }) (pu5 (pu3 (pu5 (pu5 hO))))
          obtain rfl := Option.some.inj h
          exact hR _ a40 k41 C42 hs43 (dr2 (dr2 (pu1 (pu2 hO))))

        · refine ⟨(hO.blk (.tail _ (.tail _ (.tail _ (.tail _ (.tail _ (.tail _ (.head _)))))))).wr (Nat.le_of_ble_eq_true rfl), ?_⟩
          intro H48 eH48
          replace hO := oz6 (l' := [Value.slice a40 r30.2.nodes.length k41, I r30.2.root, I r30.2.err, I r30.2.pos]) hO eH48 rfl
          refine ⟨r30.2.err, ((hO.blk (.head _)).rdv rfl), ?_⟩
          refine ⟨(⟨a40, r30.2.nodes.length, k41, r30.2.root, r30.2.err, r30.2.pos⟩ : TreeT), (hO.blk (.tail _ (.tail _ (.tail _ (.tail _ (.tail _ (.tail _ (.head _)))))))).rowT rfl, ?_⟩
          replace hO := close_E L0 ({ S0 with f := r30.1 }) (pu5 (pu3 (pu5 (pu5 hO))))
          obtain rfl := Option.some.inj h
          exact hR _ a40 k41 C42 hs43 (dr2 (dr2 (pu1 (pu2 hO))))


      · intro H49 eH49
        replace hO := own_new (l := [Value.slice none 0 0, I (0 : Int), I (0 : Int), I (0 : Int)]) hO eH49 rfl
        refine c115 n_ L0.f L0.fl S0.f (List.drop (Int.toNat (1 : Int)) z1) r30 e31 _ _ _ (fr1 (pu2 hO)) (fun H50 a51 k52 C53 hs54 hO => ?_)
        replace hO := un2 hO
        refine ⟨(⟨a51, r30.2.nodes.length, k52, r30.2.root, r30.2.err, r30.2.pos⟩ : TreeT), rfl, ?_⟩
        refine ⟨(hO.blk (.tail _ (.tail _ (.head _)))).wr (Nat.le_of_ble_eq_true rfl), ?_⟩
        intro H55 eH55
        replace hO := oz2 (l' := [Value.slice a51 r30.2.nodes.length k52, I r30.2.root, I r30.2.err, I r30.2.pos]) hO eH55 rfl
        refine ⟨(⟨a51, r30.2.nodes.length, k52, r30.2.root, r30.2.err, r30.2.pos⟩ : TreeT), (hO.blk (.tail _ (.tail _ (.head _)))).rowT rfl, ?_⟩
        refine ⟨?_, ?_⟩
        · refine ⟨r30.2.err, ((hO.blk (.tail _ (.tail _ (.head _)))).rdv rfl), ?_⟩
          refine ⟨(hO.blk (.tail _ (.tail _ (.tail _ (.tail _ (.tail _ (.tail _ (.head _)))))))).wr (Nat.le_of_ble_eq_true rfl), ?_⟩
          intro H57 eH57
          replace hO := oz6 (l' := [Value.slice a51 r30.2.nodes.length k52, I r30.2.root, I r30.2.err, I r30.2.pos]) hO eH57 rfl
          refine ⟨(⟨a51, r30.2.nodes.length, k52, r30.2.root, r30.2.err, r30.2.pos⟩ : TreeT), (hO.blk (.tail _ (.tail _ (.tail _ (.tail _ (.tail _ (.tail _ (.head _)))))))).rowT rfl, ?_⟩
          replace hO := close_E L0 ({ S0 with f := r30.1 }) (pu5 (pu2 (pu5 (pu5 hO))))
          obtain rfl := Option.some.inj h
          exact hR _ a51 k52 C53 hs54 (dr2 (dr2 (hO)))

        · refine ⟨(hO.blk (.tail _ (.tail _ (.tail _ (.tail _ (.tail _ (.tail _ (.head _)))))))).wr (Nat.le_of_ble_eq_true rfl), ?_⟩
          intro H58 eH58
          replace hO := oz6 (l' := [Value.slice a51 r30.2.nodes.length k52, I r30.2.root, I r30.2.err, I r30.2.pos]) hO eH58 rfl
          refine ⟨r30.2.err, ((hO.blk (.tail _ (.tail _ (.head _)))).rdv rfl), ?_⟩
          refine ⟨(⟨a51, r30.2.nodes.length, k52, r30.2.root, r30.2.err, r30.2.pos⟩ : TreeT), (hO.blk (.tail _ (.tail _ (.tail _ (.tail _ (.tail _ (.tail _ (.head _)))))))).rowT rfl, ?_⟩
          replace hO := close_E L0 ({ S0 with f := r30.1 }) (pu5 (pu2 (pu5 (pu5 hO))))
          obtain rfl := Option.some.inj h
          exact hR _ a51 k52 C53 hs54 (dr2 (dr2 (hO)))






theorem c125 (b0 : Nat) (a0 : List NodeT) (i0 : Int) (r_ : List NodeT) (h : s125 a0 i0 = some r_) (F : List Ent) (H : Heap) (R : Value → Heap → Prop)
    (hO : Own H [cellE 153 b0 (List.flatMap encNode a0)] F)
    (hR : ∀ (H' : Heap) , Own H' [cellE 153 b0 (List.flatMap encNode r_)] F → R (.tuple #[]) H') :
    HCalls Tryz.prog 125 #[Value.pointer (some ⟨b0, 0 + Int.toNat i0 * 13, none⟩)] H R := by
  refine vc125 b0 (0 + Int.toNat i0 * 13) H R ?_
  unfold s125 at h
  obtain ⟨x21, g22, h⟩ := bindS h
  refine ⟨((hO.arr (.head _)).wr1 lenNode (i := Int.toNat i0) (j := 0) (getLt g22) (Nat.le_of_ble_eq_true rfl) (zo0 _)), ?_⟩
  intro H23 eH23
  replace hO := oz0 (l' := List.flatMap encNode (List.set a0 (Int.toNat i0) (⟨(5 : Int), (0 : Int), (-1 : Int), (-1 : Int), (0 : Int), (⟨(0 : Int), (0 : Int), false, false⟩ : RefT), (⟨(0 : Int), (0 : Int), false, false⟩ : RefT)⟩ : NodeT))) hO eH23 (flat_put1 lenNode (i := Int.toNat i0) (x := (⟨(5 : Int), (0 : Int), (-1 : Int), (-1 : Int), (0 : Int), (⟨(0 : Int), (0 : Int), false, false⟩ : RefT), (⟨(0 : Int), (0 : Int), false, false⟩ : RefT)⟩ : NodeT)) (getLt g22) (Nat.zero_add _))
  obtain rfl := Option.some.inj h
  exact hR _ hO


theorem c179 (z0 : GapT) (z1 : Int) (r_ : Int) (h : s179 z0 z1 = some r_) (F : List Ent) (H : Heap) (R : Value → Heap → Prop)
    (hO : Own H [] F)
    (hR : ∀ (H' : Heap) , Own H' [] F → R (I r_) H') :
    HCalls Tryz.prog 179 #[Value.agg ⟨encGap z0⟩, I z1] H R := by
  refine vc179 z0 z1 H R ?_
  unfold s179 at h
  intro H21 eH21
  replace hO := own_new (l := encGap z0) hO eH21 rfl
  refine ⟨z0.step, ((hO.blk (.head _)).rdv rfl), ?_⟩
  refine ⟨fun w22 => ?_, fun w23 => ?_⟩
  · replace h := ifTd w22 h
    refine ⟨z0.at_, ((hO.blk (.head _)).rdv rfl), ?_⟩
    refine ⟨fun w24 => ?_, fun w25 => ?_⟩
    · replace h := ifTd w24 h
      obtain ⟨q26, h⟩ := ckS h
      refine ⟨_, .inl ⟨q26, rfl⟩, ?_⟩
      obtain rfl := Option.some.inj h
      exact hR _ (dr0 (hO))

    · replace h := ifFd w25 h
      obtain rfl := Option.some.inj h
      exact hR _ (dr0 (hO))


  · replace h := ifFd w23 h
    refine ⟨z0.at_, ((hO.blk (.head _)).rdv rfl), ?_⟩
    refine ⟨fun w27 => ?_, fun w28 => ?_⟩
    · replace h := ifTd w27 h
      obtain ⟨q29, h⟩ := ckS h
      refine ⟨q29, ?_⟩
      obtain rfl := Option.some.inj h
      exact hR _ (dr0 (hO))

    · replace h := ifFd w28 h
      obtain rfl := Option.some.inj h
      exact hR _ (dr0 (hO))




theorem c180 (z0 : GapT) (z1 : Int) (r_ : Int) (h : s180 z0 z1 = some r_) (F : List Ent) (H : Heap) (R : Value → Heap → Prop)
    (hO : Own H [] F)
    (hR : ∀ (H' : Heap) , Own H' [] F → R (I r_) H') :
    HCalls Tryz.prog 180 #[Value.agg ⟨encGap z0⟩, I z1] H R := by
  refine vc180 z0 z1 H R ?_
  unfold s180 at h
  intro H21 eH21
  replace hO := own_new (l := encGap z0) hO eH21 rfl
  refine ⟨z0.at_, ((hO.blk (.head _)).rdv rfl), ?_⟩
  refine ⟨fun w22 => ?_, fun w23 => ?_⟩
  · replace h := ifTd w22 h
    refine ⟨z0.step, ((hO.blk (.head _)).rdv rfl), ?_⟩
    obtain ⟨q24, h⟩ := ckS h
    refine ⟨_, .inl ⟨q24, rfl⟩, ?_⟩
    obtain rfl := Option.some.inj h
    exact hR _ (dr0 (hO))

  · replace h := ifFd w23 h
    obtain rfl := Option.some.inj h
    exact hR _ (dr0 (hO))



theorem c141 (z0 : GapT) (z1 : Int) (z2 : Int) (r_ : Int × Int × Bool) (h : s141 z0 z1 z2 = some r_) (F : List Ent) (H : Heap) (R : Value → Heap → Prop)
    (hO : Own H [] F)
    (hR : ∀ (H' : Heap) , Own H' [] F → R (.tuple #[I r_.1, I r_.2.1, .bool r_.2.2]) H') :
    HCalls Tryz.prog 141 #[Value.agg ⟨encGap z0⟩, I z1, I z2] H R := by
  refine vc141 z0 z1 z2 H R ?_
  unfold s141 at h
  intro H21 eH21
  replace hO := own_new (l := encGap z0) hO eH21 rfl
  refine ⟨z0, (hO.blk (.head _)).rowT rfl, ?_⟩
  obtain ⟨r22, e23, h⟩ := bindS h
  refine c179 z0 z1 r22 e23 _ _ _ (fr0 hO) (fun H24 hO => ?_)
  replace hO := un0 hO
  refine ⟨r22, rfl, ?_⟩
  refine ⟨z0, (hO.blk (.head _)).rowT rfl, ?_⟩
  obtain ⟨r25, e26, h⟩ := bindS h
  refine c180 z0 z2 r25 e26 _ _ _ (fr0 hO) (fun H27 hO => ?_)
  replace hO := un0 hO
  refine ⟨r25, rfl, ?_⟩
  refine ⟨fun l Hc => Own Hc [] F ∧ (k141_0 r22 (asI (nth l 0))) = some r_, ?_, ?_⟩
  · refine ⟨z0.n, ((hO.blk (.head _)).rdv rfl), ?_⟩
    refine ⟨fun w31 => ?_, fun w32 => ?_⟩
    · replace h := ifTd w31 h
      refine ⟨z0.n, ((hO.blk (.head _)).rdv rfl), ?_⟩
      obtain ⟨q33, h⟩ := ckS h
      refine ⟨q33, ?_⟩
      replace hO := dr0 (hO)
      exact ⟨hO, h⟩

    · replace h := ifFd w32 h
      replace hO := dr0 (hO)
      exact ⟨hO, h⟩


  · clear hO h
    intro H28 u29 x30 hJ
    obtain ⟨hO, h⟩ := hJ
    replace h : (k141_0 r22 x30) = some r_ := h
    unfold k141_0 at h
    obtain rfl := Option.some.inj h
    exact hR _ hO



theorem c117 (z0 : GapT) (b1 : Nat) (a1 : List NodeT) (i1 : Int) (r_ : List NodeT) (h : s117 z0 a1 i1 = some r_) (F : List Ent) (H : Heap) (R : Value → Heap → Prop)
    (hO : Own H [cellE 153 b1 (List.flatMap encNode a1)] F)
    (hR : ∀ (H' : Heap) , Own H' [cellE 153 b1 (List.flatMap encNode r_)] F → R (.tuple #[]) H') :
    HCalls Tryz.prog 117 #[Value.agg ⟨encGap z0⟩, Value.pointer (some ⟨b1, 0 + Int.toNat i1 * 13, none⟩)] H R := by
  refine vc117 z0 b1 (0 + Int.toNat i1 * 13) H R ?_
  unfold s117 at h
  intro H21 eH21
  replace hO := own_new (l := encGap z0) hO eH21 rfl
  obtain ⟨x22, g23, h⟩ := bindS h
  refine ⟨x22.r1.col, ((hO.arr (.tail _ (.head _))).rd (i := Int.toNat i1) (j := 5) lenNode g23 (by decide) (zo _ 5) rfl), ?_⟩
  refine ⟨fun l Hc => Own Hc [cellE 128 H.size (encGap z0), cellE 153 b1 (List.flatMap encNode a1)] F ∧ (k117_0 z0 a1 i1 x22 (asI (nth l 0))) = some r_, ?_, ?_⟩
  · refine ⟨z0.rows, ((hO.blk (.head _)).rdv rfl), ?_⟩
    refine ⟨fun w39 => ?_, fun w40 => ?_⟩
    · replace h := ifTb w39 h
      refine ⟨x22.r1.row, ((hO.arr (.tail _ (.head _))).rd (i := Int.toNat i1) (j := 6) lenNode g23 (by decide) (zo _ 6) rfl), ?_⟩
      exact ⟨hO, h⟩

    · replace h := ifFb w40 h
      exact ⟨hO, h⟩


  · clear hO h
    intro H24 u25 x26 hJ
    obtain ⟨hO, h⟩ := hJ
    replace h : (k117_0 z0 a1 i1 x22 x26) = some r_ := h
    unfold k117_0 at h
    refine ⟨z0, (hO.blk (.head _)).rowT rfl, ?_⟩
    obtain ⟨r27, e28, h⟩ := bindS h
    refine c141 z0 x26 x26 r27 e28 _ _ _ (fr0 hO) (fun H29 hO => ?_)
    replace hO := un0 hO
    refine ⟨r27.1, r27.2.1, r27.2.2, rfl, ?_⟩
    refine ⟨fun w30 => ?_, fun w31 => ?_⟩
    · replace w30 := bnotT w30
      replace h := ifFb w30 h
      obtain ⟨r32, e33, h⟩ := bindS h
      refine c125 b1 a1 i1 r32 e33 _ _ _ (fr1 (pu1 hO)) (fun H34 hO => ?_)
      replace hO := un1 hO
      obtain rfl := Option.some.inj h
      exact hR _ (dr1 (hO))

    · replace w31 := bnotF w31
      replace h := ifTb w31 h
      refine ⟨z0.rows, ((hO.blk (.head _)).rdv rfl), ?_⟩
      refine ⟨fun w35 => ?_, fun w36 => ?_⟩
      · replace h := ifTb w35 h
        refine ⟨((hO.arr (.tail _ (.head _))).wr1 lenNode (i := Int.toNat i1) (j := 6) (getLt g23) (Nat.le_of_ble_eq_true rfl) (zo _ 6)), ?_⟩
        intro H37 eH37
        replace hO := os1 (l' := List.flatMap encNode (List.set a1 (Int.toNat i1) ({ x22 with r1 := { x22.r1 with row := r27.1 } }))) hO eH37 (flat_set1 lenNode (i := Int.toNat i1) (j := 6) g23 (by decide) (zo _ 6) rfl)
        obtain rfl := Option.some.inj h
        exact hR _ (dr1 (pu1 hO))

      · replace h := ifFb w36 h
        refine ⟨((hO.arr (.tail _ (.head _))).wr1 lenNode (i := Int.toNat i1) (j := 5) (getLt g23) (Nat.le_of_ble_eq_true rfl) (zo _ 5)), ?_⟩
        intro H38 eH38
        replace hO := os1 (l' := List.flatMap encNode (List.set a1 (Int.toNat i1) ({ x22 with r1 := { x22.r1 with col := r27.1 } }))) hO eH38 (flat_set1 lenNode (i := Int.toNat i1) (j := 5) g23 (by decide) (zo _ 5) rfl)
        obtain rfl := Option.some.inj h
        exact hR _ (dr1 (pu1 hO))





theorem c118 (z0 : GapT) (b1 : Nat) (a1 : List NodeT) (i1 : Int) (r_ : List NodeT) (h : s118 z0 a1 i1 = some r_) (F : List Ent) (H : Heap) (R : Value → Heap → Prop)
    (hO : Own H [cellE 153 b1 (List.flatMap encNode a1)] F)
    (hR : ∀ (H' : Heap) , Own H' [cellE 153 b1 (List.flatMap encNode r_)] F → R (.tuple #[]) H') :
    HCalls Tryz.prog 118 #[Value.agg ⟨encGap z0⟩, Value.pointer (some ⟨b1, 0 + Int.toNat i1 * 13, none⟩)] H R := by
  refine vc118 z0 b1 (0 + Int.toNat i1 * 13) H R ?_
  unfold s118 at h
  intro H21 eH21
  replace hO := own_new (l := encGap z0) hO eH21 rfl
  obtain ⟨x22, g23, h⟩ := bindS h
  refine ⟨x22.r1.col, ((hO.arr (.tail _ (.head _))).rd (i := Int.toNat i1) (j := 5) lenNode g23 (by decide) (zo _ 5) rfl), ?_⟩
  refine ⟨x22.r2.col, ((hO.arr (.tail _ (.head _))).rd (i := Int.toNat i1) (j := 9) lenNode g23 (by decide) (zo _ 9) rfl), ?_⟩
  refine ⟨fun l Hc => Own Hc [cellE 128 H.size (encGap z0), cellE 153 b1 (List.flatMap encNode a1)] F ∧ (k118_1 z0 a1 i1 x22 (asI (nth l 0)) (asI (nth l 1))) = some r_, ?_, ?_⟩
  · refine ⟨z0.rows, ((hO.blk (.head _)).rdv rfl), ?_⟩
    refine ⟨fun w52 => ?_, fun w53 => ?_⟩
    · replace h := ifTb w52 h
      refine ⟨x22.r1.row, ((hO.arr (.tail _ (.head _))).rd (i := Int.toNat i1) (j := 6) lenNode g23 (by decide) (zo _ 6) rfl), ?_⟩
      refine ⟨x22.r2.row, ((hO.arr (.tail _ (.head _))).rd (i := Int.toNat i1) (j := 10) lenNode g23 (by decide) (zo _ 10) rfl), ?_⟩
      exact ⟨hO, h⟩

    · replace h := ifFb w53 h
      exact ⟨hO, h⟩


  · clear hO h
    intro H24 u25 x26 x27 hJ
    obtain ⟨hO, h⟩ := hJ
    replace h : (k118_1 z0 a1 i1 x22 x26 x27) = some r_ := h
    unfold k118_1 at h
    refine ⟨fun l Hc => Own Hc [cellE 128 H.size (encGap z0), cellE 153 b1 (List.flatMap encNode a1)] F ∧ (k118_0 z0 a1 i1 x22 (asI (nth l 0)) (asI (nth l 1)) (asB (nth l 2))) = some r_, ?_, ?_⟩
    · refine ⟨fun w44 => ?_, fun w45 => ?_⟩
      · replace h := ifTd w44 h
        refine ⟨z0, (hO.blk (.head _)).rowT rfl, ?_⟩
        obtain ⟨r46, e47, h⟩ := bindS h
        refine c141 z0 x26 x27 r46 e47 _ _ _ (fr0 hO) (fun H48 hO => ?_)
        replace hO := un0 hO
        refine ⟨r46.1, r46.2.1, r46.2.2, rfl, ?_⟩
        exact ⟨hO, h⟩

      · replace h := ifFd w45 h
        refine ⟨z0, (hO.blk (.head _)).rowT rfl, ?_⟩
        obtain ⟨r49, e50, h⟩ := bindS h
        refine c141 z0 x27 x26 r49 e50 _ _ _ (fr0 hO) (fun H51 hO => ?_)
        replace hO := un0 hO
        refine ⟨r49.1, r49.2.1, r49.2.2, rfl, ?_⟩
        exact ⟨hO, h⟩


    · clear hO h
      intro H28 u29 x30 x31 x32 hJ
      obtain ⟨hO, h⟩ := hJ
      replace h : (k118_0 z0 a1 i1 x22 x30 x31 x32) = some r_ := h
      unfold k118_0 at h
      refine ⟨fun w33 => ?_, fun w34 => ?_⟩
      · replace w33 := bnotT w33
        replace h := ifFb w33 h
        obtain ⟨r35, e36, h⟩ := bindS h
        refine c125 b1 a1 i1 r35 e36 _ _ _ (fr1 (pu1 hO)) (fun H37 hO => ?_)
        replace hO := un1 hO
        obtain rfl := Option.some.inj h
        exact hR _ (dr1 (hO))

      · replace w34 := bnotF w34
        replace h := ifTb w34 h
        refine ⟨z0.rows, ((hO.blk (.head _)).rdv rfl), ?_⟩
        refine ⟨fun w38 => ?_, fun w39 => ?_⟩
        · replace h := ifTb w38 h
          refine ⟨((hO.arr (.tail _ (.head _))).wr1 lenNode (i := Int.toNat i1) (j := 6) (getLt g23) (Nat.le_of_ble_eq_true rfl) (zo _ 6)), ?_⟩
          intro H40 eH40
          replace hO := os1 (l' := List.flatMap encNode (List.set a1 (Int.toNat i1) ({ x22 with r1 := { x22.r1 with row := x30 } }))) hO eH40 (flat_set1 lenNode (i := Int.toNat i1) (j := 6) g23 (by decide) (zo _ 6) rfl)
          refine ⟨((hO.arr (.tail _ (.head _))).wr1 lenNode (i := Int.toNat i1) (j := 10) (getLt (setGet (getLt g23))) (Nat.le_of_ble_eq_true rfl) (zo _ 10)), ?_⟩
          intro H41 eH41
          replace hO := os1 (l' := List.flatMap encNode (List.set (List.set a1 (Int.toNat i1) ({ x22 with r1 := { x22.r1 with row := x30 } })) (Int.toNat i1) ({ x22 with r1 := { x22.r1 with row := x30 }, r2 := { x22.r2 with row := x31 } }))) hO eH41 (flat_set1 lenNode (i := Int.toNat i1) (j := 10) (setGet (getLt g23)) (by decide) (zo _ 10) rfl)
          obtain rfl := Option.some.inj h
          exact hR _ (dr1 (pu1 hO))

        · replace h := ifFb w39 h
          refine ⟨((hO.arr (.tail _ (.head _))).wr1 lenNode (i := Int.toNat i1) (j := 5) (getLt g23) (Nat.le_of_ble_eq_true rfl) (zo _ 5)), ?_⟩
          intro H42 eH42
          replace hO := os1 (l' := List.flatMap encNode (List.set a1 (Int.toNat i1) ({ x22 with r1 := { x22.r1 with col := x30 } }))) hO eH42 (flat_set1 lenNode (i := Int.toNat i1) (j := 5) g23 (by decide) (zo _ 5) rfl)
          refine ⟨((hO.arr (.tail _ (.head _))).wr1 lenNode (i := Int.toNat i1) (j := 9) (getLt (setGet (getLt g23))) (Nat.le_of_ble_eq_true rfl) (zo _ 9)), ?_⟩
          intro H43 eH43
          replace hO := os1 (l' := List.flatMap encNode (List.set (List.set a1 (Int.toNat i1) ({ x22 with r1 := { x22.r1 with col := x30 } })) (Int.toNat i1) ({ x22 with r1 := { x22.r1 with col := x30 }, r2 := { x22.r2 with col := x31 } }))) hO eH43 (flat_set1 lenNode (i := Int.toNat i1) (j := 9) (setGet (getLt g23)) (by decide) (zo _ 9) rfl)
          obtain rfl := Option.some.inj h
          exact hR _ (dr1 (pu1 hO))






theorem c98 (n_ : Nat) (z0 : GapT) (b1 : Nat) (a1 : List NodeT) (m1 c1 : Nat) (r_ : List NodeT) (h : s98 n_ z0 a1 m1 = some r_) (F : List Ent) (H : Heap) (R : Value → Heap → Prop)
    (hO : Own H [cellE 153 b1 (List.flatMap encNode a1)] F)
    (hR : ∀ (H' : Heap) , Own H' [cellE 153 b1 (List.flatMap encNode r_)] F → R (.tuple #[]) H') :
    HCalls Tryz.prog 98 #[Value.agg ⟨encGap z0⟩, Value.slice (some ⟨b1, 0, none⟩) m1 c1] H R := by
  refine vc98 z0 (some ⟨b1, 0, none⟩) m1 c1 H R ?_
  unfold s98 at h
  intro H21 eH21
  replace hO := own_new (l := encGap z0) hO eH21 rfl
  refine ⟨fun l Hc => ∃ m : Nat, ∃ a46 : List NodeT, Own Hc [cellE 128 H.size (encGap z0), cellE 153 b1 (List.flatMap encNode a46)] F ∧ (l98_3 n_ z0 m1 m (asI (nth l 0)) a46) = some r_, fun l Hc => Classical.epsilon <| lsp fun m => ∃ a46 : List NodeT, Own Hc [cellE 128 H.size (encGap z0), cellE 153 b1 (List.flatMap encNode a46)] F ∧ (l98_3 n_ z0 m1 m (asI (nth l 0)) a46) = some r_, ?_, ?_⟩
  · exact ⟨n_, a1, hO, h⟩
  · clear hO h
    intro H47 u48 x49 hJ
    obtain ⟨m93, hm51, hJ⟩ := lst_get hJ
    obtain ⟨a46, hO, h⟩ := hJ
    rcases m93 with _ | k92
    · exact absurd h (by simp [l98_3, asI, asB, asC, asS])
    obtain ⟨rec50, hrec50, h⟩ : ∃ f_, f_ = l98_3 n_ z0 m1 k92 ∧ (l98_3_st n_ z0 m1 f_ x49 a46) = some r_ := ⟨_, rfl, h⟩
    unfold l98_3_st at h
    refine ⟨fun w52 => ?_, fun w53 => ?_⟩
    · replace h := ifTd w52 h
      refine ⟨fun l Hc => ∃ a67 : List NodeT, Own Hc [cellE 128 H.size (encGap z0), cellE 153 b1 (List.flatMap encNode a67)] F ∧ (k98_2 x49 rec50 a67) = some r_, ?_, ?_⟩
      · obtain ⟨x71, g72, h⟩ := getS h
        refine ⟨_, _, rfl, g72.1, g72.2.1, rfl, ?_⟩
        refine ⟨x71.kind, ((hO.arr (.tail _ (.head _))).rd (i := Int.toNat x49) (j := 0) lenNode g72.2.2 (by decide) (zo0 _) rfl), ?_⟩
        refine ⟨fun w73 => ?_, fun w74 => ?_⟩
        · replace h := ifTd w73 h
          refine ⟨x71.r1, (hO.arr (.tail _ (.head _))).rowS (i := Int.toNat x49) lenNode g72.2.2 (j := 5) (Nat.le_of_ble_eq_true rfl) (zo _ 5) rfl, ?_⟩
          refine c116 x71.r1 _ rfl _ _ _ (fr0 hO) (fun H75 hO => ?_)
          replace hO := un0 hO
          refine ⟨(s116 x71.r1), rfl, ?_⟩
          refine ⟨fun w76 => ?_, fun w77 => ?_⟩
          · replace h := ifTb w76 h
            refine ⟨z0, (hO.blk (.head _)).rowT rfl, ?_⟩
            obtain ⟨r78, e79, h⟩ := bindS h
            refine c117 z0 b1 a46 x49 r78 e79 _ _ _ (fr1 (pu1 hO)) (fun H80 hO => ?_)
            replace hO := un1 hO
            replace hO := pu1 (pu0 hO)
            exact ⟨r78, hO, h⟩

          · replace h := ifFb w77 h
            exact ⟨a46, hO, h⟩


        · replace h := ifFd w74 h
          refine ⟨x71.kind, ((hO.arr (.tail _ (.head _))).rd (i := Int.toNat x49) (j := 0) lenNode g72.2.2 (by decide) (zo0 _) rfl), ?_⟩
          refine ⟨fun w81 => ?_, fun w82 => ?_⟩
          · replace h := ifTd w81 h
            refine ⟨x71.r1, (hO.arr (.tail _ (.head _))).rowS (i := Int.toNat x49) lenNode g72.2.2 (j := 5) (Nat.le_of_ble_eq_true rfl) (zo _ 5) rfl, ?_⟩
            refine c116 x71.r1 _ rfl _ _ _ (fr0 hO) (fun H83 hO => ?_)
            replace hO := un0 hO
            refine ⟨(s116 x71.r1), rfl, ?_⟩
            refine ⟨fun w84 => ?_, fun w85 => ?_⟩
            · replace h := ifTb w84 h
              refine ⟨x71.r2, (hO.arr (.tail _ (.head _))).rowS (i := Int.toNat x49) lenNode g72.2.2 (j := 9) (Nat.le_of_ble_eq_true rfl) (zo _ 9) rfl, ?_⟩
              refine c116 x71.r2 _ rfl _ _ _ (fr0 hO) (fun H86 hO => ?_)
              replace hO := un0 hO
              refine ⟨(s116 x71.r2), rfl, ?_⟩
              refine ⟨fun w87 => ?_, fun w88 => ?_⟩
              · replace h := ifTb w87 h
                refine ⟨z0, (hO.blk (.head _)).rowT rfl, ?_⟩
                obtain ⟨r89, e90, h⟩ := bindS h
                refine c118 z0 b1 a46 x49 r89 e90 _ _ _ (fr1 (pu1 hO)) (fun H91 hO => ?_)
                replace hO := un1 hO
                replace hO := pu1 (pu0 hO)
                exact ⟨r89, hO, h⟩

              · replace h := ifFb w88 h
                exact ⟨a46, hO, h⟩


            · replace h := ifFb w85 h
              exact ⟨a46, hO, h⟩


          · replace h := ifFd w82 h
            exact ⟨a46, hO, h⟩



      · clear hO h
        intro H68 u69  hJ
        obtain ⟨a67, hO, h⟩ := hJ
        replace h : (k98_2 x49 rec50 a67) = some r_ := h
        unfold k98_2 at h
        obtain ⟨q70, h⟩ := ckS h
        refine ⟨_, .inl ⟨q70, rfl⟩, ?_⟩
        subst hrec50
        exact lst_step hm51 ⟨a67, hO, h⟩


    · replace h := ifFd w53 h
      obtain rfl := Option.some.inj h
      exact hR _ (dr1 (pu1 hO))




theorem c210 (z0 : NodeT) (r_ : NodeT) (h : s210 z0 = r_) (F : List Ent) (H : Heap) (R : Value → Heap → Prop)
    (hO : Own H [] F)
    (hR : ∀ (H' : Heap) , Own H' [] F → R (.agg ⟨encNode r_⟩) H') :
    HCalls Tryz.prog 210 #[Value.agg ⟨encNode z0⟩] H R := by
  refine vc210 z0 H R ?_
  unfold s210 at h
  intro H21 eH21
  replace hO := own_new (l := encNode z0) hO eH21 rfl
  intro H22 eH22
  replace hO := own_new (l := encNode (⟨(0 : Int), (0 : Int), (0 : Int), (0 : Int), (0 : Int), (⟨(0 : Int), (0 : Int), false, false⟩ : RefT), (⟨(0 : Int), (0 : Int), false, false⟩ : RefT)⟩ : NodeT)) hO eH22 rfl
  refine ⟨z0.kind, ((hO.blk (.tail _ (.head _))).rdv rfl), ?_⟩
  intro H23 eH23
  replace hO := own_new (l := encNode (⟨(0 : Int), (0 : Int), (0 : Int), (0 : Int), (0 : Int), (⟨(0 : Int), (0 : Int), false, false⟩ : RefT), (⟨(0 : Int), (0 : Int), false, false⟩ : RefT)⟩ : NodeT)) hO eH23 rfl
  refine ⟨(hO.blk (.head _)).wr (Nat.le_of_ble_eq_true rfl), ?_⟩
  intro H24 eH24
  replace hO := oz0 (l' := encNode (⟨z0.kind, (0 : Int), (-1 : Int), (-1 : Int), (0 : Int), (⟨(0 : Int), (0 : Int), false, false⟩ : RefT), (⟨(0 : Int), (0 : Int), false, false⟩ : RefT)⟩ : NodeT)) hO eH24 rfl
  refine ⟨z0.kind, ((hO.blk (.tail _ (.tail _ (.head _)))).rdv rfl), ?_⟩
  refine ⟨fun w25 => ?_, fun w26 => ?_⟩
  · replace h := ifTd w25 h
    refine ⟨z0.n, ((hO.blk (.tail _ (.tail _ (.head _)))).rdv rfl), ?_⟩
    refine ⟨(hO.blk (.head _)).wr (Nat.le_of_ble_eq_true rfl), ?_⟩
    intro H27 eH27
    replace hO := os0 (l' := encNode (⟨z0.kind, (0 : Int), (-1 : Int), (-1 : Int), z0.n, (⟨(0 : Int), (0 : Int), false, false⟩ : RefT), (⟨(0 : Int), (0 : Int), false, false⟩ : RefT)⟩ : NodeT)) hO eH27 rfl
    refine ⟨(⟨z0.kind, (0 : Int), (-1 : Int), (-1 : Int), z0.n, (⟨(0 : Int), (0 : Int), false, false⟩ : RefT), (⟨(0 : Int), (0 : Int), false, false⟩ : RefT)⟩ : NodeT), (hO.blk (.head _)).rowT rfl, ?_⟩
    refine ⟨(hO.blk (.tail _ (.head _))).wr (Nat.le_of_ble_eq_true rfl), ?_⟩
    intro H28 eH28
    replace hO := oz1 (l' := encNode (⟨z0.kind, (0 : Int), (-1 : Int), (-1 : Int), z0.n, (⟨(0 : Int), (0 : Int), false, false⟩ : RefT), (⟨(0 : Int), (0 : Int), false, false⟩ : RefT)⟩ : NodeT)) hO eH28 rfl
    refine ⟨(⟨z0.kind, (0 : Int), (-1 : Int), (-1 : Int), z0.n, (⟨(0 : Int), (0 : Int), false, false⟩ : RefT), (⟨(0 : Int), (0 : Int), false, false⟩ : RefT)⟩ : NodeT), (hO.blk (.tail _ (.head _))).rowT rfl, ?_⟩
    subst h
    exact hR _ (dr0 (dr0 (dr0 (hO))))

  · replace h := ifFd w26 h
    refine ⟨fun w29 => ?_, fun w30 => ?_⟩
    · replace h := ifTd w29 h
      refine ⟨z0.n, ((hO.blk (.tail _ (.tail _ (.head _)))).rdv rfl), ?_⟩
      refine ⟨(hO.blk (.head _)).wr (Nat.le_of_ble_eq_true rfl), ?_⟩
      intro H31 eH31
      replace hO := os0 (l' := encNode (⟨z0.kind, (0 : Int), (-1 : Int), (-1 : Int), z0.n, (⟨(0 : Int), (0 : Int), false, false⟩ : RefT), (⟨(0 : Int), (0 : Int), false, false⟩ : RefT)⟩ : NodeT)) hO eH31 rfl
      refine ⟨(⟨z0.kind, (0 : Int), (-1 : Int), (-1 : Int), z0.n, (⟨(0 : Int), (0 : Int), false, false⟩ : RefT), (⟨(0 : Int), (0 : Int), false, false⟩ : RefT)⟩ : NodeT), (hO.blk (.head _)).rowT rfl, ?_⟩
      refine ⟨(hO.blk (.tail _ (.head _))).wr (Nat.le_of_ble_eq_true rfl), ?_⟩
      intro H32 eH32
      replace hO := oz1 (l' := encNode (⟨z0.kind, (0 : Int), (-1 : Int), (-1 : Int), z0.n, (⟨(0 : Int), (0 : Int), false, false⟩ : RefT), (⟨(0 : Int), (0 : Int), false, false⟩ : RefT)⟩ : NodeT)) hO eH32 rfl
      refine ⟨(⟨z0.kind, (0 : Int), (-1 : Int), (-1 : Int), z0.n, (⟨(0 : Int), (0 : Int), false, false⟩ : RefT), (⟨(0 : Int), (0 : Int), false, false⟩ : RefT)⟩ : NodeT), (hO.blk (.tail _ (.head _))).rowT rfl, ?_⟩
      subst h
      exact hR _ (dr0 (dr0 (dr0 (hO))))

    · replace h := ifFd w30 h
      refine ⟨fun w33 => ?_, fun w34 => ?_⟩
      · replace h := ifTd w33 h
        refine ⟨z0.r1, (hO.blk (.tail _ (.tail _ (.head _)))).rowT rfl, ?_⟩
        refine ⟨(hO.blk (.head _)).wr (Nat.le_of_ble_eq_true rfl), ?_⟩
        intro H35 eH35
        replace hO := oz0 (l' := encNode (⟨z0.kind, (0 : Int), (-1 : Int), (-1 : Int), (0 : Int), z0.r1, (⟨(0 : Int), (0 : Int), false, false⟩ : RefT)⟩ : NodeT)) hO eH35 rfl
        refine ⟨(⟨z0.kind, (0 : Int), (-1 : Int), (-1 : Int), (0 : Int), z0.r1, (⟨(0 : Int), (0 : Int), false, false⟩ : RefT)⟩ : NodeT), (hO.blk (.head _)).rowT rfl, ?_⟩
        refine ⟨(hO.blk (.tail _ (.head _))).wr (Nat.le_of_ble_eq_true rfl), ?_⟩
        intro H36 eH36
        replace hO := oz1 (l' := encNode (⟨z0.kind, (0 : Int), (-1 : Int), (-1 : Int), (0 : Int), z0.r1, (⟨(0 : Int), (0 : Int), false, false⟩ : RefT)⟩ : NodeT)) hO eH36 rfl
        refine ⟨(⟨z0.kind, (0 : Int), (-1 : Int), (-1 : Int), (0 : Int), z0.r1, (⟨(0 : Int), (0 : Int), false, false⟩ : RefT)⟩ : NodeT), (hO.blk (.tail _ (.head _))).rowT rfl, ?_⟩
        subst h
        exact hR _ (dr0 (dr0 (dr0 (hO))))

      · replace h := ifFd w34 h
        refine ⟨fun w37 => ?_, fun w38 => ?_⟩
        · replace h := ifTd w37 h
          refine ⟨z0.r1, (hO.blk (.tail _ (.tail _ (.head _)))).rowT rfl, ?_⟩
          refine ⟨?_, ?_⟩
          · refine ⟨z0.r2, (hO.blk (.tail _ (.tail _ (.head _)))).rowT rfl, ?_⟩
            refine ⟨(hO.blk (.head _)).wr (Nat.le_of_ble_eq_true rfl), ?_⟩
            intro H41 eH41
            replace hO := oz0 (l' := encNode (⟨z0.kind, (0 : Int), (-1 : Int), (-1 : Int), (0 : Int), z0.r1, (⟨(0 : Int), (0 : Int), false, false⟩ : RefT)⟩ : NodeT)) hO eH41 rfl
            refine ⟨(hO.blk (.head _)).wr (Nat.le_of_ble_eq_true rfl), ?_⟩
            intro H42 eH42
            replace hO := oz0 (l' := encNode ({ z0 with op := (0 : Int), a := (-1 : Int), b := (-1 : Int), n := (0 : Int) })) hO eH42 rfl
            refine ⟨{ z0 with op := (0 : Int), a := (-1 : Int), b := (-1 : Int), n := (0 : Int) }, (hO.blk (.head _)).rowT rfl, ?_⟩
            refine ⟨(hO.blk (.tail _ (.head _))).wr (Nat.le_of_ble_eq_true rfl), ?_⟩
            intro H43 eH43
            replace hO := oz1 (l' := encNode ({ z0 with op := (0 : Int), a := (-1 : Int), b := (-1 : Int), n := (0 : Int) })) hO eH43 rfl
            refine ⟨{ z0 with op := (0 : Int), a := (-1 : Int), b := (-1 : Int), n := (0 : Int) }, (hO.blk (.tail _ (.head _))).rowT rfl, ?_⟩
            subst h
            exact hR _ (dr0 (dr0 (dr0 (hO))))

          · refine ⟨(hO.blk (.head _)).wr (Nat.le_of_ble_eq_true rfl), ?_⟩
            intro H44 eH44
            replace hO := oz0 (l' := encNode (⟨z0.kind, (0 : Int), (-1 : Int), (-1 : Int), (0 : Int), z0.r1, (⟨(0 : Int), (0 : Int), false, false⟩ : RefT)⟩ : NodeT)) hO eH44 rfl
            refine ⟨z0.r2, (hO.blk (.tail _ (.tail _ (.head _)))).rowT rfl, ?_⟩
            refine ⟨(hO.blk (.head _)).wr (Nat.le_of_ble_eq_true rfl), ?_⟩
            intro H45 eH45
            replace hO := oz0 (l' := encNode ({ z0 with op := (0 : Int), a := (-1 : Int), b := (-1 : Int), n := (0 : Int) })) hO eH45 rfl
            refine ⟨{ z0 with op := (0 : Int), a := (-1 : Int), b := (-1 : Int), n := (0 : Int) }, (hO.blk (.head _)).rowT rfl, ?_⟩
            refine ⟨(hO.blk (.tail _ (.head _))).wr (Nat.le_of_ble_eq_true rfl), ?_⟩
            intro H46 eH46
            replace hO := oz1 (l' := encNode ({ z0 with op := (0 : Int), a := (-1 : Int), b := (-1 : Int), n := (0 : Int) })) hO eH46 rfl
            refine ⟨{ z0 with op := (0 : Int), a := (-1 : Int), b := (-1 : Int), n := (0 : Int) }, (hO.blk (.tail _ (.head _))).rowT rfl, ?_⟩
            subst h
            exact hR _ (dr0 (dr0 (dr0 (hO))))


        · replace h := ifFd w38 h
          refine ⟨fun w47 => ?_, fun w48 => ?_⟩
          · replace h := ifTd w47 h
            refine ⟨z0.a, ((hO.blk (.tail _ (.tail _ (.head _)))).rdv rfl), ?_⟩
            refine ⟨(hO.blk (.head _)).wr (Nat.le_of_ble_eq_true rfl), ?_⟩
            intro H49 eH49
            replace hO := os0 (l' := encNode (⟨z0.kind, (0 : Int), z0.a, (-1 : Int), (0 : Int), (⟨(0 : Int), (0 : Int), false, false⟩ : RefT), (⟨(0 : Int), (0 : Int), false, false⟩ : RefT)⟩ : NodeT)) hO eH49 rfl
            refine ⟨(⟨z0.kind, (0 : Int), z0.a, (-1 : Int), (0 : Int), (⟨(0 : Int), (0 : Int), false, false⟩ : RefT), (⟨(0 : Int), (0 : Int), false, false⟩ : RefT)⟩ : NodeT), (hO.blk (.head _)).rowT rfl, ?_⟩
            refine ⟨(hO.blk (.tail _ (.head _))).wr (Nat.le_of_ble_eq_true rfl), ?_⟩
            intro H50 eH50
            replace hO := oz1 (l' := encNode (⟨z0.kind, (0 : Int), z0.a, (-1 : Int), (0 : Int), (⟨(0 : Int), (0 : Int), false, false⟩ : RefT), (⟨(0 : Int), (0 : Int), false, false⟩ : RefT)⟩ : NodeT)) hO eH50 rfl
            refine ⟨(⟨z0.kind, (0 : Int), z0.a, (-1 : Int), (0 : Int), (⟨(0 : Int), (0 : Int), false, false⟩ : RefT), (⟨(0 : Int), (0 : Int), false, false⟩ : RefT)⟩ : NodeT), (hO.blk (.tail _ (.head _))).rowT rfl, ?_⟩
            subst h
            exact hR _ (dr0 (dr0 (dr0 (hO))))

          · replace h := ifFd w48 h
            refine ⟨fun w51 => ?_, fun w52 => ?_⟩
            · replace h := ifTd w51 h
              refine ⟨z0.op, ((hO.blk (.tail _ (.tail _ (.head _)))).rdv rfl), ?_⟩
              refine ⟨?_, ?_, ?_⟩
              · refine ⟨z0.a, ((hO.blk (.tail _ (.tail _ (.head _)))).rdv rfl), ?_⟩
                refine ⟨?_, ?_⟩
                · refine ⟨z0.b, ((hO.blk (.tail _ (.tail _ (.head _)))).rdv rfl), ?_⟩
                  refine ⟨(hO.blk (.head _)).wr (Nat.le_of_ble_eq_true rfl), ?_⟩
                  intro H62 eH62
                  replace hO := os0 (l' := encNode (⟨z0.kind, z0.op, (-1 : Int), (-1 : Int), (0 : Int), (⟨(0 : Int), (0 : Int), false, false⟩ : RefT), (⟨(0 : Int), (0 : Int), false, false⟩ : RefT)⟩ : NodeT)) hO eH62 rfl
                  refine ⟨(hO.blk (.head _)).wr (Nat.le_of_ble_eq_true rfl), ?_⟩
                  intro H63 eH63
                  replace hO := os0 (l' := encNode ({ z0 with b := (-1 : Int), n := (0 : Int), r1 := (⟨(0 : Int), (0 : Int), false, false⟩ : RefT), r2 := (⟨(0 : Int), (0 : Int), false, false⟩ : RefT) })) hO eH63 rfl
                  refine ⟨(hO.blk (.head _)).wr (Nat.le_of_ble_eq_true rfl), ?_⟩
                  intro H64 eH64
                  replace hO := os0 (l' := encNode ({ z0 with n := (0 : Int), r1 := (⟨(0 : Int), (0 : Int), false, false⟩ : RefT), r2 := (⟨(0 : Int), (0 : Int), false, false⟩ : RefT) })) hO eH64 rfl
                  refine ⟨{ z0 with n := (0 : Int), r1 := (⟨(0 : Int), (0 : Int), false, false⟩ : RefT), r2 := (⟨(0 : Int), (0 : Int), false, false⟩ : RefT) }, (hO.blk (.head _)).rowT rfl, ?_⟩
                  refine ⟨(hO.blk (.tail _ (.head _))).wr (Nat.le_of_ble_eq_true rfl), ?_⟩
                  intro H65 eH65
                  replace hO := oz1 (l' := encNode ({ z0 with n := (0 : Int), r1 := (⟨(0 : Int), (0 : Int), false, false⟩ : RefT), r2 := (⟨(0 : Int), (0 : Int), false, false⟩ : RefT) })) hO eH65 rfl
                  refine ⟨{ z0 with n := (0 : Int), r1 := (⟨(0 : Int), (0 : Int), false, false⟩ : RefT), r2 := (⟨(0 : Int), (0 : Int), false, false⟩ : RefT) }, (hO.blk (.tail _ (.head _))).rowT rfl, ?_⟩
                  subst h
                  exact hR _ (dr0 (dr0 (dr0 (hO))))

                · refine ⟨(hO.blk (.head _)).wr (Nat.le_of_ble_eq_true rfl), ?_⟩
                  intro H66 eH66
                  replace hO := os0 (l' := encNode (⟨z0.kind, z0.op, (-1 : Int), (-1 : Int), (0 : Int), (⟨(0 : Int), (0 : Int), false, false⟩ : RefT), (⟨(0 : Int), (0 : Int), false, false⟩ : RefT)⟩ : NodeT)) hO eH66 rfl
                  refine ⟨?_, ?_⟩
                  · refine ⟨z0.b, ((hO.blk (.tail _ (.tail _ (.head _)))).rdv rfl), ?_⟩
                    refine ⟨(hO.blk (.head _)).wr (Nat.le_of_ble_eq_true rfl), ?_⟩
                    intro H69 eH69
                    replace hO := os0 (l' := encNode ({ z0 with b := (-1 : Int), n := (0 : Int), r1 := (⟨(0 : Int), (0 : Int), false, false⟩ : RefT), r2 := (⟨(0 : Int), (0 : Int), false, false⟩ : RefT) })) hO eH69 rfl
                    refine ⟨(hO.blk (.head _)).wr (Nat.le_of_ble_eq_true rfl), ?_⟩
                    intro H70 eH70
                    replace hO := os0 (l' := encNode ({ z0 with n := (0 : Int), r1 := (⟨(0 : Int), (0 : Int), false, false⟩ : RefT), r2 := (⟨(0 : Int), (0 : Int), false, false⟩ : RefT) })) hO eH70 rfl
                    refine ⟨{ z0 with n := (0 : Int), r1 := (⟨(0 : Int), (0 : Int), false, false⟩ : RefT), r2 := (⟨(0 : Int), (0 : Int), false, false⟩ : RefT) }, (hO.blk (.head _)).rowT rfl, ?_⟩
                    refine ⟨(hO.blk (.tail _ (.head _))).wr (Nat.le_of_ble_eq_true rfl), ?_⟩
                    intro H71 eH71
                    replace hO := oz1 (l' := encNode ({ z0 with n := (0 : Int), r1 := (⟨(0 : Int), (0 : Int), false, false⟩ : RefT), r2 := (⟨(0 : Int), (0 : Int), false, false⟩ : RefT) })) hO eH71 rfl
                    refine ⟨{ z0 with n := (0 : Int), r1 := (⟨(0 : Int), (0 : Int), false, false⟩ : RefT), r2 := (⟨(0 : Int), (0 : Int), false, false⟩ : RefT) }, (hO.blk (.tail _ (.head _))).rowT rfl, ?_⟩
                    subst h
                    exact hR _ (dr0 (dr0 (dr0 (hO))))

                  · refine ⟨(hO.blk (.head _)).wr (Nat.le_of_ble_eq_true rfl), ?_⟩
                    intro H72 eH72
                    replace hO := os0 (l' := encNode ({ z0 with b := (-1 : Int), n := (0 : Int), r1 := (⟨(0 : Int), (0 : Int), false, false⟩ : RefT), r2 := (⟨(0 : Int), (0 : Int), false, false⟩ : RefT) })) hO eH72 rfl
                    refine ⟨z0.b, ((hO.blk (.tail _ (.tail _ (.head _)))).rdv rfl), ?_⟩
                    refine ⟨(hO.blk (.head _)).wr (Nat.le_of_ble_eq_true rfl), ?_⟩
                    intro H73 eH73
                    replace hO := os0 (l' := encNode ({ z0 with n := (0 : Int), r1 := (⟨(0 : Int), (0 : Int), false, false⟩ : RefT), r2 := (⟨(0 : Int), (0 : Int), false, false⟩ : RefT) })) hO eH73 rfl
                    refine ⟨{ z0 with n := (0 : Int), r1 := (⟨(0 : Int), (0 : Int), false, false⟩ : RefT), r2 := (⟨(0 : Int), (0 : Int), false, false⟩ : RefT) }, (hO.blk (.head _)).rowT rfl, ?_⟩
                    refine ⟨(hO.blk (.tail _ (.head _))).wr (Nat.le_of_ble_eq_true rfl), ?_⟩
                    intro H74 eH74
                    replace hO := oz1 (l' := encNode ({ z0 with n := (0 : Int), r1 := (⟨(0 : Int), (0 : Int), false, false⟩ : RefT), r2 := (⟨(0 : Int), (0 : Int), false, false⟩ : RefT) })) hO eH74 rfl
                    refine ⟨{ z0 with n := (0 : Int), r1 := (⟨(0 : Int), (0 : Int), false, false⟩ : RefT), r2 := (⟨(0 : Int), (0 : Int), false, false⟩ : RefT) }, (hO.blk (.tail _ (.head _))).rowT rfl, ?_⟩
                    subst h
                    exact hR _ (dr0 (dr0 (dr0 (hO))))



              · refine ⟨z0.b, ((hO.blk (.tail _ (.tail _ (.head _)))).rdv rfl), ?_⟩
                refine ⟨?_, ?_⟩
                · refine ⟨z0.a, ((hO.blk (.tail _ (.tail _ (.head _)))).rdv rfl), ?_⟩
                  refine ⟨(hO.blk (.head _)).wr (Nat.le_of_ble_eq_true rfl), ?_⟩
                  intro H78 eH78
                  replace hO := os0 (l' := encNode (⟨z0.kind, z0.op, (-1 : Int), (-1 : Int), (0 : Int), (⟨(0 : Int), (0 : Int), false, false⟩ : RefT), (⟨(0 : Int), (0 : Int), false, false⟩ : RefT)⟩ : NodeT)) hO eH78 rfl
                  refine ⟨(hO.blk (.head _)).wr (Nat.le_of_ble_eq_true rfl), ?_⟩
                  intro H79 eH79
                  replace hO := os0 (l' := encNode ({ z0 with b := (-1 : Int), n := (0 : Int), r1 := (⟨(0 : Int), (0 : Int), false, false⟩ : RefT), r2 := (⟨(0 : Int), (0 : Int), false, false⟩ : RefT) })) hO eH79 rfl
                  refine ⟨(hO.blk (.head _)).wr (Nat.le_of_ble_eq_true rfl), ?_⟩
                  intro H80 eH80
                  replace hO := os0 (l' := encNode ({ z0 with n := (0 : Int), r1 := (⟨(0 : Int), (0 : Int), false, false⟩ : RefT), r2 := (⟨(0 : Int), (0 : Int), false, false⟩ : RefT) })) hO eH80 rfl
                  refine ⟨{ z0 with n := (0 : Int), r1 := (⟨(0 : Int), (0 : Int), false, false⟩ : RefT), r2 := (⟨(0 : Int), (0 : Int), false, false⟩ : RefT) }, (hO.blk (.head _)).rowT rfl, ?_⟩
                  refine ⟨(hO.blk (.tail _ (.head _))).wr (Nat.le_of_ble_eq_true rfl), ?_⟩
                  intro H81 eH81
                  replace hO := oz1 (l' := encNode ({ z0 with n := (0 : Int), r1 := (⟨(0 : Int), (0 : Int), false, false⟩ : RefT), r2 := (⟨(0 : Int), (0 : Int), false, false⟩ : RefT) })) hO eH81 rfl
                  refine ⟨{ z0 with n := (0 : Int), r1 := (⟨(0 : Int), (0 : Int), false, false⟩ : RefT), r2 := (⟨(0 : Int), (0 : Int), false, false⟩ : RefT) }, (hO.blk (.tail _ (.head _))).rowT rfl, ?_⟩
                  subst h
                  exact hR _ (dr0 (dr0 (dr0 (hO))))

                · refine ⟨(hO.blk (.head _)).wr (Nat.le_of_ble_eq_true rfl), ?_⟩
                  intro H82 eH82
                  replace hO := os0 (l' := encNode (⟨z0.kind, z0.op, (-1 : Int), (-1 : Int), (0 : Int), (⟨(0 : Int), (0 : Int), false, false⟩ : RefT), (⟨(0 : Int), (0 : Int), false, false⟩ : RefT)⟩ : NodeT)) hO eH82 rfl
                  refine ⟨z0.a, ((hO.blk (.tail _ (.tail _ (.head _)))).rdv rfl), ?_⟩
                  refine ⟨(hO.blk (.head _)).wr (Nat.le_of_ble_eq_true rfl), ?_⟩
                  intro H83 eH83
                  replace hO := os0 (l' := encNode ({ z0 with b := (-1 : Int), n := (0 : Int), r1 := (⟨(0 : Int), (0 : Int), false, false⟩ : RefT), r2 := (⟨(0 : Int), (0 : Int), false, false⟩ : RefT) })) hO eH83 rfl
                  refine ⟨(hO.blk (.head _)).wr (Nat.le_of_ble_eq_true rfl), ?_⟩
                  intro H84 eH84
                  replace hO := os0 (l' := encNode ({ z0 with n := (0 : Int), r1 := (⟨(0 : Int), (0 : Int), false, false⟩ : RefT), r2 := (⟨(0 : Int), (0 : Int), false, false⟩ : RefT) })) hO eH84 rfl
                  refine ⟨{ z0 with n := (0 : Int), r1 := (⟨(0 : Int), (0 : Int), false, false⟩ : RefT), r2 := (⟨(0 : Int), (0 : Int), false, false⟩ : RefT) }, (hO.blk (.head _)).rowT rfl, ?_⟩
                  refine ⟨(hO.blk (.tail _ (.head _))).wr (Nat.le_of_ble_eq_true rfl), ?_⟩
                  intro H85 eH85
                  replace hO := oz1 (l' := encNode ({ z0 with n := (0 : Int), r1 := (⟨(0 : Int), (0 : Int), false, false⟩ : RefT), r2 := (⟨(0 : Int), (0 : Int), false, false⟩ : RefT) })) hO eH85 rfl
                  refine ⟨{ z0 with n := (0 : Int), r1 := (⟨(0 : Int), (0 : Int), false, false⟩ : RefT), r2 := (⟨(0 : Int), (0 : Int), false, false⟩ : RefT) }, (hO.blk (.tail _ (.head _))).rowT rfl, ?_⟩
                  subst h
                  exact hR _ (dr0 (dr0 (dr0 (hO))))


              · refine ⟨(hO.blk (.head _)).wr (Nat.le_of_ble_eq_true rfl), ?_⟩
                intro H86 eH86
                replace hO := os0 (l' := encNode (⟨z0.kind, z0.op, (-1 : Int), (-1 : Int), (0 : Int), (⟨(0 : Int), (0 : Int), false, false⟩ : RefT), (⟨(0 : Int), (0 : Int), false, false⟩ : RefT)⟩ : NodeT)) hO eH86 rfl
                refine ⟨z0.a, ((hO.blk (.tail _ (.tail _ (.head _)))).rdv rfl), ?_⟩
                refine ⟨?_, ?_⟩
                · refine ⟨z0.b, ((hO.blk (.tail _ (.tail _ (.head _)))).rdv rfl), ?_⟩
                  refine ⟨(hO.blk (.head _)).wr (Nat.le_of_ble_eq_true rfl), ?_⟩
                  intro H89 eH89
                  replace hO := os0 (l' := encNode ({ z0 with b := (-1 : Int), n := (0 : Int), r1 := (⟨(0 : Int), (0 : Int), false, false⟩ : RefT), r2 := (⟨(0 : Int), (0 : Int), false, false⟩ : RefT) })) hO eH89 rfl
                  refine ⟨(hO.blk (.head _)).wr (Nat.le_of_ble_eq_true rfl), ?_⟩
                  intro H90 eH90
                  replace hO := os0 (l' := encNode ({ z0 with n := (0 : Int), r1 := (⟨(0 : Int), (0 : Int), false, false⟩ : RefT), r2 := (⟨(0 : Int), (0 : Int), false, false⟩ : RefT) })) hO eH90 rfl
                  refine ⟨{ z0 with n := (0 : Int), r1 := (⟨(0 : Int), (0 : Int), false, false⟩ : RefT), r2 := (⟨(0 : Int), (0 : Int), false, false⟩ : RefT) }, (hO.blk (.head _)).rowT rfl, ?_⟩
                  refine ⟨(hO.blk (.tail _ (.head _))).wr (Nat.le_of_ble_eq_true rfl), ?_⟩
                  intro H91 eH91
                  replace hO := oz1 (l' := encNode ({ z0 with n := (0 : Int), r1 := (⟨(0 : Int), (0 : Int), false, false⟩ : RefT), r2 := (⟨(0 : Int), (0 : Int), false, false⟩ : RefT) })) hO eH91 rfl
                  refine ⟨{ z0 with n := (0 : Int), r1 := (⟨(0 : Int), (0 : Int), false, false⟩ : RefT), r2 := (⟨(0 : Int), (0 : Int), false, false⟩ : RefT) }, (hO.blk (.tail _ (.head _))).rowT rfl, ?_⟩
                  subst h
                  exact hR _ (dr0 (dr0 (dr0 (hO))))

                · refine ⟨(hO.blk (.head _)).wr (Nat.le_of_ble_eq_true rfl), ?_⟩
                  intro H92 eH92
                  replace hO := os0 (l' := encNode ({ z0 with b := (-1 : Int), n := (0 : Int), r1 := (⟨(0 : Int), (0 : Int), false, false⟩ : RefT), r2 := (⟨(0 : Int), (0 : Int), false, false⟩ : RefT) })) hO eH92 rfl
                  refine ⟨z0.b, ((hO.blk (.tail _ (.tail _ (.head _)))).rdv rfl), ?_⟩
                  refine ⟨(hO.blk (.head _)).wr (Nat.le_of_ble_eq_true rfl), ?_⟩
                  intro H93 eH93
                  replace hO := os0 (l' := encNode ({ z0 with n := (0 : Int), r1 := (⟨(0 : Int), (0 : Int), false, false⟩ : RefT), r2 := (⟨(0 : Int), (0 : Int), false, false⟩ : RefT) })) hO eH93 rfl
                  refine ⟨{ z0 with n := (0 : Int), r1 := (⟨(0 : Int), (0 : Int), false, false⟩ : RefT), r2 := (⟨(0 : Int), (0 : Int), false, false⟩ : RefT) }, (hO.blk (.head _)).rowT rfl, ?_⟩
                  refine ⟨(hO.blk (.tail _ (.head _))).wr (Nat.le_of_ble_eq_true rfl), ?_⟩
                  intro H94 eH94
                  replace hO := oz1 (l' := encNode ({ z0 with n := (0 : Int), r1 := (⟨(0 : Int), (0 : Int), false, false⟩ : RefT), r2 := (⟨(0 : Int), (0 : Int), false, false⟩ : RefT) })) hO eH94 rfl
                  refine ⟨{ z0 with n := (0 : Int), r1 := (⟨(0 : Int), (0 : Int), false, false⟩ : RefT), r2 := (⟨(0 : Int), (0 : Int), false, false⟩ : RefT) }, (hO.blk (.tail _ (.head _))).rowT rfl, ?_⟩
                  subst h
                  exact hR _ (dr0 (dr0 (dr0 (hO))))



            · replace h := ifFd w52 h
              refine ⟨fun w95 => ?_, fun w96 => ?_⟩
              · replace h := ifTd w95 h
                refine ⟨z0.op, ((hO.blk (.tail _ (.tail _ (.head _)))).rdv rfl), ?_⟩
                refine ⟨?_, ?_, ?_⟩
                · refine ⟨z0.a, ((hO.blk (.tail _ (.tail _ (.head _)))).rdv rfl), ?_⟩
                  refine ⟨?_, ?_⟩
                  · refine ⟨z0.n, ((hO.blk (.tail _ (.tail _ (.head _)))).rdv rfl), ?_⟩
                    refine ⟨(hO.blk (.head _)).wr (Nat.le_of_ble_eq_true rfl), ?_⟩
                    intro H106 eH106
                    replace hO := os0 (l' := encNode (⟨z0.kind, z0.op, (-1 : Int), (-1 : Int), (0 : Int), (⟨(0 : Int), (0 : Int), false, false⟩ : RefT), (⟨(0 : Int), (0 : Int), false, false⟩ : RefT)⟩ : NodeT)) hO eH106 rfl
                    refine ⟨(hO.blk (.head _)).wr (Nat.le_of_ble_eq_true rfl), ?_⟩
                    intro H107 eH107
                    replace hO := os0 (l' := encNode ({ z0 with b := (-1 : Int), n := (0 : Int), r1 := (⟨(0 : Int), (0 : Int), false, false⟩ : RefT), r2 := (⟨(0 : Int), (0 : Int), false, false⟩ : RefT) })) hO eH107 rfl
                    refine ⟨(hO.blk (.head _)).wr (Nat.le_of_ble_eq_true rfl), ?_⟩
                    intro H108 eH108
                    replace hO := os0 (l' := encNode ({ z0 with b := (-1 : Int), r1 := (⟨(0 : Int), (0 : Int), false, false⟩ : RefT), r2 := (⟨(0 : Int), (0 : Int), false, false⟩ : RefT) })) hO eH108 rfl
                    refine ⟨{ z0 with b := (-1 : Int), r1 := (⟨(0 : Int), (0 : Int), false, false⟩ : RefT), r2 := (⟨(0 : Int), (0 : Int), false, false⟩ : RefT) }, (hO.blk (.head _)).rowT rfl, ?_⟩
                    refine ⟨(hO.blk (.tail _ (.head _))).wr (Nat.le_of_ble_eq_true rfl), ?_⟩
                    intro H109 eH109
                    replace hO := oz1 (l' := encNode ({ z0 with b := (-1 : Int), r1 := (⟨(0 : Int), (0 : Int), false, false⟩ : RefT), r2 := (⟨(0 : Int), (0 : Int), false, false⟩ : RefT) })) hO eH109 rfl
                    refine ⟨{ z0 with b := (-1 : Int), r1 := (⟨(0 : Int), (0 : Int), false, false⟩ : RefT), r2 := (⟨(0 : Int), (0 : Int), false, false⟩ : RefT) }, (hO.blk (.tail _ (.head _))).rowT rfl, ?_⟩
                    subst h
                    exact hR _ (dr0 (dr0 (dr0 (hO))))

                  · refine ⟨(hO.blk (.head _)).wr (Nat.le_of_ble_eq_true rfl), ?_⟩
                    intro H110 eH110
                    replace hO := os0 (l' := encNode (⟨z0.kind, z0.op, (-1 : Int), (-1 : Int), (0 : Int), (⟨(0 : Int), (0 : Int), false, false⟩ : RefT), (⟨(0 : Int), (0 : Int), false, false⟩ : RefT)⟩ : NodeT)) hO eH110 rfl
                    refine ⟨?_, ?_⟩
                    · refine ⟨z0.n, ((hO.blk (.tail _ (.tail _ (.head _)))).rdv rfl), ?_⟩
                      refine ⟨(hO.blk (.head _)).wr (Nat.le_of_ble_eq_true rfl), ?_⟩
                      intro H113 eH113
                      replace hO := os0 (l' := encNode ({ z0 with b := (-1 : Int), n := (0 : Int), r1 := (⟨(0 : Int), (0 : Int), false, false⟩ : RefT), r2 := (⟨(0 : Int), (0 : Int), false, false⟩ : RefT) })) hO eH113 rfl
                      refine ⟨(hO.blk (.head _)).wr (Nat.le_of_ble_eq_true rfl), ?_⟩
                      intro H114 eH114
                      replace hO := os0 (l' := encNode ({ z0 with b := (-1 : Int), r1 := (⟨(0 : Int), (0 : Int), false, false⟩ : RefT), r2 := (⟨(0 : Int), (0 : Int), false, false⟩ : RefT) })) hO eH114 rfl
                      refine ⟨{ z0 with b := (-1 : Int), r1 := (⟨(0 : Int), (0 : Int), false, false⟩ : RefT), r2 := (⟨(0 : Int), (0 : Int), false, false⟩ : RefT) }, (hO.blk (.head _)).rowT rfl, ?_⟩
                      refine ⟨(hO.blk (.tail _ (.head _))).wr (Nat.le_of_ble_eq_true rfl), ?_⟩
                      intro H115 eH115
                      replace hO := oz1 (l' := encNode ({ z0 with b := (-1 : Int), r1 := (⟨(0 : Int), (0 : Int), false, false⟩ : RefT), r2 := (⟨(0 : Int), (0 : Int), false, false⟩ : RefT) })) hO eH115 rfl
                      refine ⟨{ z0 with b := (-1 : Int), r1 := (⟨(0 : Int), (0 : Int), false, false⟩ : RefT), r2 := (⟨(0 : Int), (0 : Int), false, false⟩ : RefT) }, (hO.blk (.tail _ (.head _))).rowT rfl, ?_⟩
                      subst h
                      exact hR _ (dr0 (dr0 (dr0 (hO))))

                    · refine ⟨(hO.blk (.head _)).wr (Nat.le_of_ble_eq_true rfl), ?_⟩
                      intro H116 eH116
                      replace hO := os0 (l' := encNode ({ z0 with b := (-1 : Int), n := (0 : Int), r1 := (⟨(0 : Int), (0 : Int), false, false⟩ : RefT), r2 := (⟨(0 : Int), (0 : Int), false, false⟩ : RefT) })) hO eH116 rfl
                      refine ⟨z0.n, ((hO.blk (.tail _ (.tail _ (.head _)))).rdv rfl), ?_⟩
                      refine ⟨(hO.blk (.head _)).wr (Nat.le_of_ble_eq_true rfl), ?_⟩
                      intro H117 eH117
                      replace hO := os0 (l' := encNode ({ z0 with b := (-1 : Int), r1 := (⟨(0 : Int), (0 : Int), false, false⟩ : RefT), r2 := (⟨(0 : Int), (0 : Int), false, false⟩ : RefT) })) hO eH117 rfl
                      refine ⟨{ z0 with b := (-1 : Int), r1 := (⟨(0 : Int), (0 : Int), false, false⟩ : RefT), r2 := (⟨(0 : Int), (0 : Int), false, false⟩ : RefT) }, (hO.blk (.head _)).rowT rfl, ?_⟩
                      refine ⟨(hO.blk (.tail _ (.head _))).wr (Nat.le_of_ble_eq_true rfl), ?_⟩
                      intro H118 eH118
                      replace hO := oz1 (l' := encNode ({ z0 with b := (-1 : Int), r1 := (⟨(0 : Int), (0 : Int), false, false⟩ : RefT), r2 := (⟨(0 : Int), (0 : Int), false, false⟩ : RefT) })) hO eH118 rfl
                      refine ⟨{ z0 with b := (-1 : Int), r1 := (⟨(0 : Int), (0 : Int), false, false⟩ : RefT), r2 := (⟨(0 : Int), (0 : Int), false, false⟩ : RefT) }, (hO.blk (.tail _ (.head _))).rowT rfl, ?_⟩
                      subst h
                      exact hR _ (dr0 (dr0 (dr0 (hO))))



                · refine ⟨z0.n, ((hO.blk (.tail _ (.tail _ (.head _)))).rdv rfl), ?_⟩
                  refine ⟨?_, ?_⟩
                  · refine ⟨z0.a, ((hO.blk (.tail _ (.tail _ (.head _)))).rdv rfl), ?_⟩
                    refine ⟨(hO.blk (.head _)).wr (Nat.le_of_ble_eq_true rfl), ?_⟩
                    intro H122 eH122
                    replace hO := os0 (l' := encNode (⟨z0.kind, z0.op, (-1 : Int), (-1 : Int), (0 : Int), (⟨(0 : Int), (0 : Int), false, false⟩ : RefT), (⟨(0 : Int), (0 : Int), false, false⟩ : RefT)⟩ : NodeT)) hO eH122 rfl
                    refine ⟨(hO.blk (.head _)).wr (Nat.le_of_ble_eq_true rfl), ?_⟩
                    intro H123 eH123
                    replace hO := os0 (l' := encNode ({ z0 with b := (-1 : Int), n := (0 : Int), r1 := (⟨(0 : Int), (0 : Int), false, false⟩ : RefT), r2 := (⟨(0 : Int), (0 : Int), false, false⟩ : RefT) })) hO eH123 rfl
                    refine ⟨(hO.blk (.head _)).wr (Nat.le_of_ble_eq_true rfl), ?_⟩
                    intro H124 eH124
                    replace hO := os0 (l' := encNode ({ z0 with b := (-1 : Int), r1 := (⟨(0 : Int), (0 : Int), false, false⟩ : RefT), r2 := (⟨(0 : Int), (0 : Int), false, false⟩ : RefT) })) hO eH124 rfl
                    refine ⟨{ z0 with b := (-1 : Int), r1 := (⟨(0 : Int), (0 : Int), false, false⟩ : RefT), r2 := (⟨(0 : Int), (0 : Int), false, false⟩ : RefT) }, (hO.blk (.head _)).rowT rfl, ?_⟩
                    refine ⟨(hO.blk (.tail _ (.head _))).wr (Nat.le_of_ble_eq_true rfl), ?_⟩
                    intro H125 eH125
                    replace hO := oz1 (l' := encNode ({ z0 with b := (-1 : Int), r1 := (⟨(0 : Int), (0 : Int), false, false⟩ : RefT), r2 := (⟨(0 : Int), (0 : Int), false, false⟩ : RefT) })) hO eH125 rfl
                    refine ⟨{ z0 with b := (-1 : Int), r1 := (⟨(0 : Int), (0 : Int), false, false⟩ : RefT), r2 := (⟨(0 : Int), (0 : Int), false, false⟩ : RefT) }, (hO.blk (.tail _ (.head _))).rowT rfl, ?_⟩
                    subst h
                    exact hR _ (dr0 (dr0 (dr0 (hO))))

                  · refine ⟨(hO.blk (.head _)).wr (Nat.le_of_ble_eq_true rfl), ?_⟩
                    intro H126 eH126
                    replace hO := os0 (l' := encNode (⟨z0.kind, z0.op, (-1 : Int), (-1 : Int), (0 : Int), (⟨(0 : Int), (0 : Int), false, false⟩ : RefT), (⟨(0 : Int), (0 : Int), false, false⟩ : RefT)⟩ : NodeT)) hO eH126 rfl
                    refine ⟨z0.a, ((hO.blk (.tail _ (.tail _ (.head _)))).rdv rfl), ?_⟩
                    refine ⟨(hO.blk (.head _)).wr (Nat.le_of_ble_eq_true rfl), ?_⟩
                    intro H127 eH127
                    replace hO := os0 (l' := encNode ({ z0 with b := (-1 : Int), n := (0 : Int), r1 := (⟨(0 : Int), (0 : Int), false, false⟩ : RefT), r2 := (⟨(0 : Int), (0 : Int), false, false⟩ : RefT) })) hO eH127 rfl
                    refine ⟨(hO.blk (.head _)).wr (Nat.le_of_ble_eq_true rfl), ?_⟩
                    intro H128 eH128
                    replace hO := os0 (l' := encNode ({ z0 with b := (-1 : Int), r1 := (⟨(0 : Int), (0 : Int), false, false⟩ : RefT), r2 := (⟨(0 : Int), (0 : Int), false, false⟩ : RefT) })) hO eH128 rfl
                    refine ⟨{ z0 with b := (-1 : Int), r1 := (⟨(0 : Int), (0 : Int), false, false⟩ : RefT), r2 := (⟨(0 : Int), (0 : Int), false, false⟩ : RefT) }, (hO.blk (.head _)).rowT rfl, ?_⟩
                    refine ⟨(hO.blk (.tail _ (.head _))).wr (Nat.le_of_ble_eq_true rfl), ?_⟩
                    intro H129 eH129
                    replace hO := oz1 (l' := encNode ({ z0 with b := (-1 : Int), r1 := (⟨(0 : Int), (0 : Int), false, false⟩ : RefT), r2 := (⟨(0 : Int), (0 : Int), false, false⟩ : RefT) })) hO eH129 rfl
                    refine ⟨{ z0 with b := (-1 : Int), r1 := (⟨(0 : Int), (0 : Int), false, false⟩ : RefT), r2 := (⟨(0 : Int), (0 : Int), false, false⟩ : RefT) }, (hO.blk (.tail _ (.head _))).rowT rfl, ?_⟩
                    subst h
                    exact hR _ (dr0 (dr0 (dr0 (hO))))


                · refine ⟨(hO.blk (.head _)).wr (Nat.le_of_ble_eq_true rfl), ?_⟩
                  intro H130 eH130
                  replace hO := os0 (l' := encNode (⟨z0.kind, z0.op, (-1 : Int), (-1 : Int), (0 : Int), (⟨(0 : Int), (0 : Int), false, false⟩ : RefT), (⟨(0 : Int), (0 : Int), false, false⟩ : RefT)⟩ : NodeT)) hO eH130 rfl
                  refine ⟨z0.a, ((hO.blk (.tail _ (.tail _ (.head _)))).rdv rfl), ?_⟩
                  refine ⟨?_, ?_⟩
                  · refine ⟨z0.n, ((hO.blk (.tail _ (.tail _ (.head _)))).rdv rfl), ?_⟩
                    refine ⟨(hO.blk (.head _)).wr (Nat.le_of_ble_eq_true rfl), ?_⟩
                    intro H133 eH133
                    replace hO := os0 (l' := encNode ({ z0 with b := (-1 : Int), n := (0 : Int), r1 := (⟨(0 : Int), (0 : Int), false, false⟩ : RefT), r2 := (⟨(0 : Int), (0 : Int), false, false⟩ : RefT) })) hO eH133 rfl
                    refine ⟨(hO.blk (.head _)).wr (Nat.le_of_ble_eq_true rfl), ?_⟩
                    intro H134 eH134
                    replace hO := os0 (l' := encNode ({ z0 with b := (-1 : Int), r1 := (⟨(0 : Int), (0 : Int), false, false⟩ : RefT), r2 := (⟨(0 : Int), (0 : Int), false, false⟩ : RefT) })) hO eH134 rfl
                    refine ⟨{ z0 with b := (-1 : Int), r1 := (⟨(0 : Int), (0 : Int), false, false⟩ : RefT), r2 := (⟨(0 : Int), (0 : Int), false, false⟩ : RefT) }, (hO.blk (.head _)).rowT rfl, ?_⟩
                    refine ⟨(hO.blk (.tail _ (.head _))).wr (Nat.le_of_ble_eq_true rfl), ?_⟩
                    intro H135 eH135
                    replace hO := oz1 (l' := encNode ({ z0 with b := (-1 : Int), r1 := (⟨(0 : Int), (0 : Int), false, false⟩ : RefT), r2 := (⟨(0 : Int), (0 : Int), false, false⟩ : RefT) })) hO eH135 rfl
                    refine ⟨{ z0 with b := (-1 : Int), r1 := (⟨(0 : Int), (0 : Int), false, false⟩ : RefT), r2 := (⟨(0 : Int), (0 : Int), false, false⟩ : RefT) }, (hO.blk (.tail _ (.head _))).rowT rfl, ?_⟩
                    subst h
                    exact hR _ (dr0 (dr0 (dr0 (hO))))

                  · refine ⟨(hO.blk (.head _)).wr (Nat.le_of_ble_eq_true rfl), ?_⟩
                    intro H136 eH136
                    replace hO := os0 (l' := encNode ({ z0 with b := (-1 : Int), n := (0 : Int), r1 := (⟨(0 : Int), (0 : Int), false, false⟩ : RefT), r2 := (⟨(0 : Int), (0 : Int), false, false⟩ : RefT) })) hO eH136 rfl
                    refine ⟨z0.n, ((hO.blk (.tail _ (.tail _ (.head _)))).rdv rfl), ?_⟩
                    refine ⟨(hO.blk (.head _)).wr (Nat.le_of_ble_eq_true rfl), ?_⟩
                    intro H137 eH137
                    replace hO := os0 (l' := encNode ({ z0 with b := (-1 : Int), r1 := (⟨(0 : Int), (0 : Int), false, false⟩ : RefT), r2 := (⟨(0 : Int), (0 : Int), false, false⟩ : RefT) })) hO eH137 rfl
                    refine ⟨{ z0 with b := (-1 : Int), r1 := (⟨(0 : Int), (0 : Int), false, false⟩ : RefT), r2 := (⟨(0 : Int), (0 : Int), false, false⟩ : RefT) }, (hO.blk (.head _)).rowT rfl, ?_⟩
                    refine ⟨(hO.blk (.tail _ (.head _))).wr (Nat.le_of_ble_eq_true rfl), ?_⟩
                    intro H138 eH138
                    replace hO := oz1 (l' := encNode ({ z0 with b := (-1 : Int), r1 := (⟨(0 : Int), (0 : Int), false, false⟩ : RefT), r2 := (⟨(0 : Int), (0 : Int), false, false⟩ : RefT) })) hO eH138 rfl
                    refine ⟨{ z0 with b := (-1 : Int), r1 := (⟨(0 : Int), (0 : Int), false, false⟩ : RefT), r2 := (⟨(0 : Int), (0 : Int), false, false⟩ : RefT) }, (hO.blk (.tail _ (.head _))).rowT rfl, ?_⟩
                    subst h
                    exact hR _ (dr0 (dr0 (dr0 (hO))))



              · replace h := ifFd w96 h
                refine ⟨fun w139 => ?_, fun w140 => ?_⟩
                · replace h := ifTd w139 h
                  refine ⟨z0.a, ((hO.blk (.tail _ (.tail _ (.head _)))).rdv rfl), ?_⟩
                  refine ⟨?_, ?_⟩
                  · refine ⟨z0.b, ((hO.blk (.tail _ (.tail _ (.head _)))).rdv rfl), ?_⟩
                    refine ⟨(hO.blk (.head _)).wr (Nat.le_of_ble_eq_true rfl), ?_⟩
                    intro H143 eH143
                    replace hO := os0 (l' := encNode (⟨z0.kind, (0 : Int), z0.a, (-1 : Int), (0 : Int), (⟨(0 : Int), (0 : Int), false, false⟩ : RefT), (⟨(0 : Int), (0 : Int), false, false⟩ : RefT)⟩ : NodeT)) hO eH143 rfl
                    refine ⟨(hO.blk (.head _)).wr (Nat.le_of_ble_eq_true rfl), ?_⟩
                    intro H144 eH144
                    replace hO := os0 (l' := encNode ({ z0 with op := (0 : Int), n := (0 : Int), r1 := (⟨(0 : Int), (0 : Int), false, false⟩ : RefT), r2 := (⟨(0 : Int), (0 : Int), false, false⟩ : RefT) })) hO eH144 rfl
                    refine ⟨{ z0 with op := (0 : Int), n := (0 : Int), r1 := (⟨(0 : Int), (0 : Int), false, false⟩ : RefT), r2 := (⟨(0 : Int), (0 : Int), false, false⟩ : RefT) }, (hO.blk (.head _)).rowT rfl, ?_⟩
                    refine ⟨(hO.blk (.tail _ (.head _))).wr (Nat.le_of_ble_eq_true rfl), ?_⟩
                    intro H145 eH145
                    replace hO := oz1 (l' := encNode ({ z0 with op := (0 : Int), n := (0 : Int), r1 := (⟨(0 : Int), (0 : Int), false, false⟩ : RefT), r2 := (⟨(0 : Int), (0 : Int), false, false⟩ : RefT) })) hO eH145 rfl
                    refine ⟨{ z0 with op := (0 : Int), n := (0 : Int), r1 := (⟨(0 : Int), (0 : Int), false, false⟩ : RefT), r2 := (⟨(0 : Int), (0 : Int), false, false⟩ : RefT) }, (hO.blk (.tail _ (.head _))).rowT rfl, ?_⟩
                    subst h
                    exact hR _ (dr0 (dr0 (dr0 (hO))))

                  · refine ⟨(hO.blk (.head _)).wr (Nat.le_of_ble_eq_true rfl), ?_⟩
                    intro H146 eH146
                    replace hO := os0 (l' := encNode (⟨z0.kind, (0 : Int), z0.a, (-1 : Int), (0 : Int), (⟨(0 : Int), (0 : Int), false, false⟩ : RefT), (⟨(0 : Int), (0 : Int), false, false⟩ : RefT)⟩ : NodeT)) hO eH146 rfl
                    refine ⟨z0.b, ((hO.blk (.tail _ (.tail _ (.head _)))).rdv rfl), ?_⟩
                    refine ⟨(hO.blk (.head _)).wr (Nat.le_of_ble_eq_true rfl), ?_⟩
                    intro H147 eH147
                    replace hO := os0 (l' := encNode ({ z0 with op := (0 : Int), n := (0 : Int), r1 := (⟨(0 : Int), (0 : Int), false, false⟩ : RefT), r2 := (⟨(0 : Int), (0 : Int), false, false⟩ : RefT) })) hO eH147 rfl
                    refine ⟨{ z0 with op := (0 : Int), n := (0 : Int), r1 := (⟨(0 : Int), (0 : Int), false, false⟩ : RefT), r2 := (⟨(0 : Int), (0 : Int), false, false⟩ : RefT) }, (hO.blk (.head _)).rowT rfl, ?_⟩
                    refine ⟨(hO.blk (.tail _ (.head _))).wr (Nat.le_of_ble_eq_true rfl), ?_⟩
                    intro H148 eH148
                    replace hO := oz1 (l' := encNode ({ z0 with op := (0 : Int), n := (0 : Int), r1 := (⟨(0 : Int), (0 : Int), false, false⟩ : RefT), r2 := (⟨(0 : Int), (0 : Int), false, false⟩ : RefT) })) hO eH148 rfl
                    refine ⟨{ z0 with op := (0 : Int), n := (0 : Int), r1 := (⟨(0 : Int), (0 : Int), false, false⟩ : RefT), r2 := (⟨(0 : Int), (0 : Int), false, false⟩ : RefT) }, (hO.blk (.tail _ (.head _))).rowT rfl, ?_⟩
                    subst h
                    exact hR _ (dr0 (dr0 (dr0 (hO))))


                · replace h := ifFd w140 h
                  refine ⟨(⟨z0.kind, (0 : Int), (-1 : Int), (-1 : Int), (0 : Int), (⟨(0 : Int), (0 : Int), false, false⟩ : RefT), (⟨(0 : Int), (0 : Int), false, false⟩ : RefT)⟩ : NodeT), (hO.blk (.head _)).rowT rfl, ?_⟩
                  refine ⟨(hO.blk (.tail _ (.head _))).wr (Nat.le_of_ble_eq_true rfl), ?_⟩
                  intro H149 eH149
                  replace hO := oz1 (l' := encNode (⟨z0.kind, (0 : Int), (-1 : Int), (-1 : Int), (0 : Int), (⟨(0 : Int), (0 : Int), false, false⟩ : RefT), (⟨(0 : Int), (0 : Int), false, false⟩ : RefT)⟩ : NodeT)) hO eH149 rfl
                  refine ⟨(⟨z0.kind, (0 : Int), (-1 : Int), (-1 : Int), (0 : Int), (⟨(0 : Int), (0 : Int), false, false⟩ : RefT), (⟨(0 : Int), (0 : Int), false, false⟩ : RefT)⟩ : NodeT), (hO.blk (.tail _ (.head _))).rowT rfl, ?_⟩
                  subst h
                  exact hR _ (dr0 (dr0 (dr0 (hO))))










theorem c181_b (n_ : Nat) (rec_181 : (List NodeT) → Nat → Int → Bool → Option Int) (rec_211 : (List NodeT) → Nat → Int → Int → Bool → Option Int) (ih_181 : K181 rec_181) (ih_211 : K211 rec_211) (b0 : Nat) (a0 : List NodeT) (m0 c0 : Nat) (z1 : Int) (z2 : Bool) (r_ : Int) (h : s181_b n_ rec_181 rec_211 a0 m0 z1 z2 = some r_) (F : List Ent) (H : Heap) (R : Value → Heap → Prop)
    (hO : Own H [cellE 153 b0 (List.flatMap encNode a0)] F)
    (hR : ∀ (H' : Heap) , Own H' [cellE 153 b0 (List.flatMap encNode a0)] F → R (I r_) H') :
    HCalls Tryz.prog 181 #[Value.slice (some ⟨b0, 0, none⟩) m0 c0, I z1, Value.bool z2] H R := by
  refine vc181 (some ⟨b0, 0, none⟩) m0 c0 z1 z2 H R ?_
  unfold s181_b at h
  refine ⟨fun w22 => ?_, fun w21 => ?_⟩
  · replace h := ifFd w22 h
    refine ⟨fun w23 => ?_, fun w24 => ?_⟩
    · replace h := ifTd w23 h
      obtain rfl := Option.some.inj h
      exact hR _ hO

    · replace h := ifFd w24 h
      obtain ⟨x25, g26, h⟩ := getS h
      refine ⟨_, _, rfl, g26.1, g26.2.1, rfl, ?_⟩
      refine ⟨x25, (hO.arr (.head _)).row (i := Int.toNat z1) lenNode g26.2.2 (Nat.zero_add _), ?_⟩
      intro H27 eH27
      replace hO := own_new (l := encNode (⟨(0 : Int), (0 : Int), (0 : Int), (0 : Int), (0 : Int), (⟨(0 : Int), (0 : Int), false, false⟩ : RefT), (⟨(0 : Int), (0 : Int), false, false⟩ : RefT)⟩ : NodeT)) hO eH27 rfl
      refine ⟨(hO.blk (.head _)).wr (Nat.le_of_ble_eq_true rfl), ?_⟩
      intro H28 eH28
      replace hO := oz0 (l' := encNode x25) hO eH28 rfl
      refine ⟨x25, (hO.blk (.head _)).rowT rfl, ?_⟩
      refine ⟨?_, ?_⟩
      · refine ⟨x25, (hO.blk (.head _)).rowT rfl, ?_⟩
        refine c210 x25 _ rfl _ _ _ (fr0 hO) (fun H30 hO => ?_)
        replace hO := un0 hO
        refine ⟨({ (s210 x25) with r1 := (⟨((s210 x25).r1.col), ((s210 x25).r1.row), ((s210 x25).r1.ac), ((s210 x25).r1.ar)⟩ : RefT), r2 := (⟨((s210 x25).r2.col), ((s210 x25).r2.row), ((s210 x25).r2.ac), ((s210 x25).r2.ar)⟩ : RefT) }), rfl, ?_⟩
        refine ⟨fun w31 => ?_, fun w32 => ?_⟩
        · replace w31 := bnotT w31
          replace h := ifFb w31 h
          obtain rfl := Option.some.inj h
          exact hR _ (dr1 (pu1 hO))

        · replace w32 := bnotF w32
          replace h := ifTb w32 h
          refine ⟨x25.kind, ((hO.blk (.head _)).rdv rfl), ?_⟩
          refine ⟨fun w33 => ?_, fun w34 => ?_⟩
          · replace h := ifTd w33 h
            refine ⟨x25.n, ((hO.blk (.head _)).rdv rfl), ?_⟩
            refine ⟨fun w36 => ?_, fun w35 => ?_⟩
            · replace h := ifFd w36 h
              refine ⟨x25.n, ((hO.blk (.head _)).rdv rfl), ?_⟩
              refine ⟨fun w37 => ?_, fun w38 => ?_⟩
              · replace h := ifTd w37 h
                obtain rfl := Option.some.inj h
                exact hR _ (dr1 (pu1 hO))

              · replace h := ifFd w38 h
                obtain rfl := Option.some.inj h
                exact hR _ (dr1 (pu1 hO))


            · replace h := ifTd w35 h
              obtain rfl := Option.some.inj h
              exact hR _ (dr1 (pu1 hO))


          · replace h := ifFd w34 h
            refine ⟨fun w39 => ?_, fun w40 => ?_⟩
            · replace h := ifTd w39 h
              refine ⟨x25.n, ((hO.blk (.head _)).rdv rfl), ?_⟩
              refine ⟨fun w42 => ?_, fun w41 => ?_⟩
              · replace h := ifFd w42 h
                refine ⟨x25.n, ((hO.blk (.head _)).rdv rfl), ?_⟩
                refine ⟨fun w43 => ?_, fun w44 => ?_⟩
                · replace h := ifTd w43 h
                  obtain rfl := Option.some.inj h
                  exact hR _ (dr1 (pu1 hO))

                · replace h := ifFd w44 h
                  obtain rfl := Option.some.inj h
                  exact hR _ (dr1 (pu1 hO))


              · replace h := ifTd w41 h
                obtain rfl := Option.some.inj h
                exact hR _ (dr1 (pu1 hO))


            · replace h := ifFd w40 h
              refine ⟨fun w45 => ?_, fun w46 => ?_⟩
              · replace h := ifTd w45 h
                obtain rfl := Option.some.inj h
                exact hR _ (dr1 (pu1 hO))

              · replace h := ifFd w46 h
                refine ⟨fun w47 => ?_, fun w48 => ?_⟩
                · replace h := ifTd w47 h
                  obtain rfl := Option.some.inj h
                  exact hR _ (dr1 (pu1 hO))

                · replace h := ifFd w48 h
                  refine ⟨fun w49 => ?_, fun w50 => ?_⟩
                  · replace h := ifTd w49 h
                    refine ⟨fun w51 => ?_, fun w52 => ?_⟩
                    · replace w51 := bnotT w51
                      replace h := ifFb w51 h
                      obtain rfl := Option.some.inj h
                      exact hR _ (dr1 (pu1 hO))

                    · replace w52 := bnotF w52
                      replace h := ifTb w52 h
                      obtain rfl := Option.some.inj h
                      exact hR _ (dr1 (pu1 hO))


                  · replace h := ifFd w50 h
                    refine ⟨fun w53 => ?_, fun w54 => ?_⟩
                    · replace h := ifTd w53 h
                      refine ⟨x25.a, ((hO.blk (.head _)).rdv rfl), ?_⟩
                      obtain ⟨q55, h⟩ := ckS h
                      refine ⟨q55, ?_⟩
                      refine ⟨fun w56 => ?_, fun w57 => ?_⟩
                      · replace w56 := bnotT w56
                        replace h := ifFd w56 h
                        obtain rfl := Option.some.inj h
                        exact hR _ (dr1 (pu1 hO))

                      · replace w57 := bnotF w57
                        replace h := ifTd w57 h
                        refine ⟨x25.a, ((hO.blk (.head _)).rdv rfl), ?_⟩
                        obtain ⟨r58, e59, h⟩ := bindS h
                        refine ih_181 b0 a0 m0 c0 x25.a false r58 e59 _ _ _ (fr1 (pu1 hO)) (fun H60 hO => ?_)
                        replace hO := un1 hO
                        refine ⟨r58, rfl, ?_⟩
                        obtain rfl := Option.some.inj h
                        exact hR _ (dr1 (hO))


                    · replace h := ifFd w54 h
                      refine ⟨fun w61 => ?_, fun w62 => ?_⟩
                      · replace h := ifTd w61 h
                        refine ⟨x25.op, ((hO.blk (.head _)).rdv rfl), ?_⟩
                        refine ⟨fun w64 => ?_, fun w63 => ?_⟩
                        · replace h := ifFd w64 h
                          refine ⟨x25.op, ((hO.blk (.head _)).rdv rfl), ?_⟩
                          refine ⟨fun w66 => ?_, fun w65 => ?_⟩
                          · replace h := ifFd w66 h
                            refine ⟨x25.b, ((hO.blk (.head _)).rdv rfl), ?_⟩
                            obtain ⟨q67, h⟩ := ckS h
                            refine ⟨q67, ?_⟩
                            refine ⟨fun w68 => ?_, fun w69 => ?_⟩
                            · replace w68 := bnotT w68
                              replace h := ifFd w68 h
                              obtain rfl := Option.some.inj h
                              exact hR _ (dr1 (pu1 hO))

                            · replace w69 := bnotF w69
                              replace h := ifTd w69 h
                              refine ⟨x25.b, ((hO.blk (.head _)).rdv rfl), ?_⟩
                              obtain ⟨r70, e71, h⟩ := bindS h
                              refine ih_181 b0 a0 m0 c0 x25.b false r70 e71 _ _ _ (fr1 (pu1 hO)) (fun H72 hO => ?_)
                              replace hO := un1 hO
                              refine ⟨r70, rfl, ?_⟩
                              refine ⟨fun w74 => ?_, fun w73 => ?_⟩
                              · replace h := ifFd w74 h
                                refine ⟨x25.a, ((hO.blk (.tail _ (.head _))).rdv rfl), ?_⟩
                                obtain ⟨q75, h⟩ := ckS h
                                refine ⟨q75, ?_⟩
                                refine ⟨fun w76 => ?_, fun w77 => ?_⟩
                                · replace w76 := bnotT w76
                                  replace h := ifFd w76 h
                                  obtain rfl := Option.some.inj h
                                  exact hR _ (dr1 (hO))

                                · replace w77 := bnotF w77
                                  replace h := ifTd w77 h
                                  refine ⟨x25.a, ((hO.blk (.tail _ (.head _))).rdv rfl), ?_⟩
                                  obtain ⟨r78, e79, h⟩ := bindS h
                                  refine ih_181 b0 a0 m0 c0 x25.a false r78 e79 _ _ _ (fr1 hO) (fun H80 hO => ?_)
                                  replace hO := un1 hO
                                  refine ⟨r78, rfl, ?_⟩
                                  obtain rfl := Option.some.inj h
                                  exact hR _ (dr1 (hO))


                              · replace h := ifTd w73 h
                                obtain rfl := Option.some.inj h
                                exact hR _ (dr1 (hO))



                          · replace h := ifTd w65 h
                            obtain rfl := Option.some.inj h
                            exact hR _ (dr1 (pu1 hO))


                        · replace h := ifTd w63 h
                          obtain rfl := Option.some.inj h
                          exact hR _ (dr1 (pu1 hO))


                      · replace h := ifFd w62 h
                        refine ⟨fun w81 => ?_, fun w82 => ?_⟩
                        · replace h := ifTd w81 h
                          refine ⟨x25.op, ((hO.blk (.head _)).rdv rfl), ?_⟩
                          refine ⟨x25.n, ((hO.blk (.head _)).rdv rfl), ?_⟩
                          refine c208 x25.op x25.n _ rfl _ _ _ (fr0 hO) (fun H83 hO => ?_)
                          replace hO := un0 hO
                          refine ⟨(s208 x25.op x25.n), rfl, ?_⟩
                          refine ⟨fun w85 => ?_, fun w84 => ?_⟩
                          · replace w85 := bnotF w85
                            replace h := ifTb w85 h
                            refine ⟨x25.a, ((hO.blk (.head _)).rdv rfl), ?_⟩
                            obtain ⟨q86, h⟩ := ckS h
                            refine ⟨q86, ?_⟩
                            refine ⟨fun w87 => ?_, fun w88 => ?_⟩
                            · replace w87 := bnotT w87
                              replace h := ifFd w87 h
                              obtain rfl := Option.some.inj h
                              exact hR _ (dr1 (pu1 hO))

                            · replace w88 := bnotF w88
                              replace h := ifTd w88 h
                              refine ⟨x25.op, ((hO.blk (.head _)).rdv rfl), ?_⟩
                              refine c209 x25.op _ rfl _ _ _ (fr0 hO) (fun H89 hO => ?_)
                              replace hO := un0 hO
                              refine ⟨(s209 x25.op), rfl, ?_⟩
                              refine ⟨x25.a, ((hO.blk (.head _)).rdv rfl), ?_⟩
                              refine ⟨x25.n, ((hO.blk (.head _)).rdv rfl), ?_⟩
                              obtain ⟨r90, e91, h⟩ := bindS h
                              refine ih_211 b0 a0 m0 c0 x25.a x25.n (s209 x25.op) r90 e91 _ _ _ (fr1 (pu1 hO)) (fun H92 hO => ?_)
                              replace hO := un1 hO
                              refine ⟨r90, rfl, ?_⟩
                              obtain rfl := Option.some.inj h
                              exact hR _ (dr1 (hO))


                          · replace w84 := bnotT w84
                            replace h := ifFb w84 h
                            obtain rfl := Option.some.inj h
                            exact hR _ (dr1 (pu1 hO))


                        · replace h := ifFd w82 h
                          obtain rfl := Option.some.inj h
                          exact hR _ (dr1 (pu1 hO))










      · refine c210 x25 _ rfl _ _ _ (fr0 hO) (fun H93 hO => ?_)
        replace hO := un0 hO
        refine ⟨({ (s210 x25) with r1 := (⟨((s210 x25).r1.col), ((s210 x25).r1.row), ((s210 x25).r1.ac), ((s210 x25).r1.ar)⟩ : RefT), r2 := (⟨((s210 x25).r2.col), ((s210 x25).r2.row), ((s210 x25).r2.ac), ((s210 x25).r2.ar)⟩ : RefT) }), rfl, ?_⟩
        refine ⟨x25, (hO.blk (.head _)).rowT rfl, ?_⟩
        refine ⟨fun w94 => ?_, fun w95 => ?_⟩
        · replace w94 := bnotT w94
          replace h := ifFb w94 h
          obtain rfl := Option.some.inj h
          exact hR _ (dr1 (pu1 hO))

        · replace w95 := bnotF w95
          replace h := ifTb w95 h
          refine ⟨x25.kind, ((hO.blk (.head _)).rdv rfl), ?_⟩
          refine ⟨fun w96 => ?_, fun w97 => ?_⟩
          · replace h := ifTd w96 h
            refine ⟨x25.n, ((hO.blk (.head _)).rdv rfl), ?_⟩
            refine ⟨fun w99 => ?_, fun w98 => ?_⟩
            · replace h := ifFd w99 h
              refine ⟨x25.n, ((hO.blk (.head _)).rdv rfl), ?_⟩
              refine ⟨fun w100 => ?_, fun w101 => ?_⟩
              · replace h := ifTd w100 h
                obtain rfl := Option.some.inj h
                exact hR _ (dr1 (pu1 hO))

              · replace h := ifFd w101 h
                obtain rfl := Option.some.inj h
                exact hR _ (dr1 (pu1 hO))


            · replace h := ifTd w98 h
              obtain rfl := Option.some.inj h
              exact hR _ (dr1 (pu1 hO))


          · replace h := ifFd w97 h
            refine ⟨fun w102 => ?_, fun w103 => ?_⟩
            · replace h := ifTd w102 h
              refine ⟨x25.n, ((hO.blk (.head _)).rdv rfl), ?_⟩
              refine ⟨fun w105 => ?_, fun w104 => ?_⟩
              · replace h := ifFd w105 h
                refine ⟨x25.n, ((hO.blk (.head _)).rdv rfl), ?_⟩
                refine ⟨fun w106 => ?_, fun w107 => ?_⟩
                · replace h := ifTd w106 h
                  obtain rfl := Option.some.inj h
                  exact hR _ (dr1 (pu1 hO))

                · replace h := ifFd w107 h
                  obtain rfl := Option.some.inj h
                  exact hR _ (dr1 (pu1 hO))


              · replace h := ifTd w104 h
                obtain rfl := Option.some.inj h
                exact hR _ (dr1 (pu1 hO))


            · replace h := ifFd w103 h
              refine ⟨fun w108 => ?_, fun w109 => ?_⟩
              · replace h := ifTd w108 h
                obtain rfl := Option.some.inj h
                exact hR _ (dr1 (pu1 hO))

              · replace h := ifFd w109 h
                refine ⟨fun w110 => ?_, fun w111 => ?_⟩
                · replace h := ifTd w110 h
                  obtain rfl := Option.some.inj h
                  exact hR _ (dr1 (pu1 hO))

                · replace h := ifFd w111 h
                  refine ⟨fun w112 => ?_, fun w113 => ?_⟩
                  · replace h := ifTd w112 h
                    refine ⟨fun w114 => ?_, fun w115 => ?_⟩
                    · replace w114 := bnotT w114
                      replace h := ifFb w114 h
                      obtain rfl := Option.some.inj h
                      exact hR _ (dr1 (pu1 hO))

                    · replace w115 := bnotF w115
                      replace h := ifTb w115 h
                      obtain rfl := Option.some.inj h
                      exact hR _ (dr1 (pu1 hO))


                  · replace h := ifFd w113 h
                    refine ⟨fun w116 => ?_, fun w117 => ?_⟩
                    · replace h := ifTd w116 h
                      refine ⟨x25.a, ((hO.blk (.head _)).rdv rfl), ?_⟩
                      obtain ⟨q118, h⟩ := ckS h
                      refine ⟨q118, ?_⟩
                      refine ⟨fun w119 => ?_, fun w120 => ?_⟩
                      · replace w119 := bnotT w119
                        replace h := ifFd w119 h
                        obtain rfl := Option.some.inj h
                        exact hR _ (dr1 (pu1 hO))

                      · replace w120 := bnotF w120
                        replace h := ifTd w120 h
                        refine ⟨x25.a, ((hO.blk (.head _)).rdv rfl), ?_⟩
                        obtain ⟨r121, e122, h⟩ := bindS h
                        refine ih_181 b0 a0 m0 c0 x25.a false r121 e122 _ _ _ (fr1 (pu1 hO)) (fun H123 hO => ?_)
                        replace hO := un1 hO
                        refine ⟨r121, rfl, ?_⟩
                        obtain rfl := Option.some.inj h
                        exact hR _ (dr1 (hO))


                    · replace h := ifFd w117 h
                      refine ⟨fun w124 => ?_, fun w125 => ?_⟩
                      · replace h := ifTd w124 h
                        refine ⟨x25.op, ((hO.blk (.head _)).rdv rfl), ?_⟩
                        refine ⟨fun w127 => ?_, fun w126 => ?_⟩
                        · replace h := ifFd w127 h
                          refine ⟨x25.op, ((hO.blk (.head _)).rdv rfl), ?_⟩
                          refine ⟨fun w129 => ?_, fun w128 => ?_⟩
                          · replace h := ifFd w129 h
                            refine ⟨x25.b, ((hO.blk (.head _)).rdv rfl), ?_⟩
                            obtain ⟨q130, h⟩ := ckS h
                            refine ⟨q130, ?_⟩
                            refine ⟨fun w131 => ?_, fun w132 => ?_⟩
                            · replace w131 := bnotT w131
                              replace h := ifFd w131 h
                              obtain rfl := Option.some.inj h
                              exact hR _ (dr1 (pu1 hO))

                            · replace w132 := bnotF w132
                              replace h := ifTd w132 h
                              refine ⟨x25.b, ((hO.blk (.head _)).rdv rfl), ?_⟩
                              obtain ⟨r133, e134, h⟩ := bindS h
                              refine ih_181 b0 a0 m0 c0 x25.b false r133 e134 _ _ _ (fr1 (pu1 hO)) (fun H135 hO => ?_)
                              replace hO := un1 hO
                              refine ⟨r133, rfl, ?_⟩
                              refine ⟨fun w137 => ?_, fun w136 => ?_⟩
                              · replace h := ifFd w137 h
                                refine ⟨x25.a, ((hO.blk (.tail _ (.head _))).rdv rfl), ?_⟩
                                obtain ⟨q138, h⟩ := ckS h
                                refine ⟨q138, ?_⟩
                                refine ⟨fun w139 => ?_, fun w140 => ?_⟩
                                · replace w139 := bnotT w139
                                  replace h := ifFd w139 h
                                  obtain rfl := Option.some.inj h
                                  exact hR _ (dr1 (hO))

                                · replace w140 := bnotF w140
                                  replace h := ifTd w140 h
                                  refine ⟨x25.a, ((hO.blk (.tail _ (.head _))).rdv rfl), ?_⟩
                                  obtain ⟨r141, e142, h⟩ := bindS h
                                  refine ih_181 b0 a0 m0 c0 x25.a false r141 e142 _ _ _ (fr1 hO) (fun H143 hO => ?_)
                                  replace hO := un1 hO
                                  refine ⟨r141, rfl, ?_⟩
                                  obtain rfl := Option.some.inj h
                                  exact hR _ (dr1 (hO))


                              · replace h := ifTd w136 h
                                obtain rfl := Option.some.inj h
                                exact hR _ (dr1 (hO))



                          · replace h := ifTd w128 h
                            obtain rfl := Option.some.inj h
                            exact hR _ (dr1 (pu1 hO))


                        · replace h := ifTd w126 h
                          obtain rfl := Option.some.inj h
                          exact hR _ (dr1 (pu1 hO))


                      · replace h := ifFd w125 h
                        refine ⟨fun w144 => ?_, fun w145 => ?_⟩
                        · replace h := ifTd w144 h
                          refine ⟨x25.op, ((hO.blk (.head _)).rdv rfl), ?_⟩
                          refine ⟨x25.n, ((hO.blk (.head _)).rdv rfl), ?_⟩
                          refine c208 x25.op x25.n _ rfl _ _ _ (fr0 hO) (fun H146 hO => ?_)
                          replace hO := un0 hO
                          refine ⟨(s208 x25.op x25.n), rfl, ?_⟩
                          refine ⟨fun w148 => ?_, fun w147 => ?_⟩
                          · replace w148 := bnotF w148
                            replace h := ifTb w148 h
                            refine ⟨x25.a, ((hO.blk (.head _)).rdv rfl), ?_⟩
                            obtain ⟨q149, h⟩ := ckS h
                            refine ⟨q149, ?_⟩
                            refine ⟨fun w150 => ?_, fun w151 => ?_⟩
                            · replace w150 := bnotT w150
                              replace h := ifFd w150 h
                              obtain rfl := Option.some.inj h
                              exact hR _ (dr1 (pu1 hO))

                            · replace w151 := bnotF w151
                              replace h := ifTd w151 h
                              refine ⟨x25.op, ((hO.blk (.head _)).rdv rfl), ?_⟩
                              refine c209 x25.op _ rfl _ _ _ (fr0 hO) (fun H152 hO => ?_)
                              replace hO := un0 hO
                              refine ⟨(s209 x25.op), rfl, ?_⟩
                              refine ⟨x25.a, ((hO.blk (.head _)).rdv rfl), ?_⟩
                              refine ⟨x25.n, ((hO.blk (.head _)).rdv rfl), ?_⟩
                              obtain ⟨r153, e154, h⟩ := bindS h
                              refine ih_211 b0 a0 m0 c0 x25.a x25.n (s209 x25.op) r153 e154 _ _ _ (fr1 (pu1 hO)) (fun H155 hO => ?_)
                              replace hO := un1 hO
                              refine ⟨r153, rfl, ?_⟩
                              obtain rfl := Option.some.inj h
                              exact hR _ (dr1 (hO))


                          · replace w147 := bnotT w147
                            replace h := ifFb w147 h
                            obtain rfl := Option.some.inj h
                            exact hR _ (dr1 (pu1 hO))


                        · replace h := ifFd w145 h
                          obtain rfl := Option.some.inj h
                          exact hR _ (dr1 (pu1 hO))












  · replace h := ifTd w21 h
    obtain rfl := Option.some.inj h
    exact hR _ hO



theorem c211_b (n_ : Nat) (rec_181 : (List NodeT) → Nat → Int → Bool → Option Int) (rec_211 : (List NodeT) → Nat → Int → Int → Bool → Option Int) (ih_181 : K181 rec_181) (ih_211 : K211 rec_211) (b0 : Nat) (a0 : List NodeT) (m0 c0 : Nat) (z1 : Int) (z2 : Int) (z3 : Bool) (r_ : Int) (h : s211_b n_ rec_181 rec_211 a0 m0 z1 z2 z3 = some r_) (F : List Ent) (H : Heap) (R : Value → Heap → Prop)
    (hO : Own H [cellE 153 b0 (List.flatMap encNode a0)] F)
    (hR : ∀ (H' : Heap) , Own H' [cellE 153 b0 (List.flatMap encNode a0)] F → R (I r_) H') :
    HCalls Tryz.prog 211 #[Value.slice (some ⟨b0, 0, none⟩) m0 c0, I z1, I z2, Value.bool z3] H R := by
  refine vc211 (some ⟨b0, 0, none⟩) m0 c0 z1 z2 z3 H R ?_
  unfold s211_b at h
  refine ⟨fun w22 => ?_, fun w21 => ?_⟩
  · replace h := ifFd w22 h
    refine ⟨fun w24 => ?_, fun w23 => ?_⟩
    · replace h := ifFd w24 h
      obtain ⟨x25, g26, h⟩ := getS h
      refine ⟨_, _, rfl, g26.1, g26.2.1, rfl, ?_⟩
      refine ⟨x25.kind, ((hO.arr (.head _)).rd (i := Int.toNat z1) (j := 0) lenNode g26.2.2 (by decide) (zo0 _) rfl), ?_⟩
      refine ⟨fun w28 => ?_, fun w27 => ?_⟩
      · replace w28 := bnotF w28
        replace h := ifTd w28 h
        refine ⟨_, _, rfl, g26.1, g26.2.1, rfl, ?_⟩
        refine ⟨x25.a, ((hO.arr (.head _)).rd (i := Int.toNat z1) (j := 2) lenNode g26.2.2 (by decide) (zo _ 2) rfl), ?_⟩
        obtain ⟨q29, h⟩ := ckS h
        refine ⟨q29, ?_⟩
        refine ⟨fun w30 => ?_, fun w31 => ?_⟩
        · replace w30 := bnotT w30
          replace h := ifFd w30 h
          obtain rfl := Option.some.inj h
          exact hR _ hO

        · replace w31 := bnotF w31
          replace h := ifTd w31 h
          refine ⟨_, _, rfl, g26.1, g26.2.1, rfl, ?_⟩
          refine ⟨_, _, rfl, g26.1, g26.2.1, rfl, ?_⟩
          refine ⟨x25, (hO.arr (.head _)).row (i := Int.toNat z1) lenNode g26.2.2 (Nat.zero_add _), ?_⟩
          refine ⟨?_, ?_⟩
          · refine ⟨x25, (hO.arr (.head _)).row (i := Int.toNat z1) lenNode g26.2.2 (Nat.zero_add _), ?_⟩
            refine c210 x25 _ rfl _ _ _ (fr0 hO) (fun H33 hO => ?_)
            replace hO := un0 hO
            refine ⟨({ (s210 x25) with r1 := (⟨((s210 x25).r1.col), ((s210 x25).r1.row), ((s210 x25).r1.ac), ((s210 x25).r1.ar)⟩ : RefT), r2 := (⟨((s210 x25).r2.col), ((s210 x25).r2.row), ((s210 x25).r2.ac), ((s210 x25).r2.ar)⟩ : RefT) }), rfl, ?_⟩
            refine ⟨fun w34 => ?_, fun w35 => ?_⟩
            · replace w34 := bnotT w34
              replace h := ifFb w34 h
              obtain rfl := Option.some.inj h
              exact hR _ hO

            · replace w35 := bnotF w35
              replace h := ifTb w35 h
              refine ⟨_, _, rfl, g26.1, g26.2.1, rfl, ?_⟩
              refine ⟨x25.a, ((hO.arr (.head _)).rd (i := Int.toNat z1) (j := 2) lenNode g26.2.2 (by decide) (zo _ 2) rfl), ?_⟩
              obtain ⟨r36, e37, h⟩ := bindS h
              refine ih_181 b0 a0 m0 c0 x25.a z3 r36 e37 _ _ _ (fr1 hO) (fun H38 hO => ?_)
              replace hO := un1 hO
              refine ⟨r36, rfl, ?_⟩
              refine ⟨fun w39 => ?_, fun w40 => ?_⟩
              · replace h := ifTd w39 h
                obtain rfl := Option.some.inj h
                exact hR _ hO

              · replace h := ifFd w40 h
                refine ⟨fun w41 => ?_, fun w42 => ?_⟩
                · replace h := ifTd w41 h
                  refine ⟨_, _, rfl, g26.1, g26.2.1, rfl, ?_⟩
                  refine ⟨x25.b, ((hO.arr (.head _)).rd (i := Int.toNat z1) (j := 3) lenNode g26.2.2 (by decide) (zo _ 3) rfl), ?_⟩
                  refine ⟨fun w43 => ?_, fun w44 => ?_⟩
                  · replace w43 := bnotT w43
                    replace h := ifFd w43 h
                    obtain rfl := Option.some.inj h
                    exact hR _ hO

                  · replace w44 := bnotF w44
                    replace h := ifTd w44 h
                    obtain rfl := Option.some.inj h
                    exact hR _ hO


                · replace h := ifFd w42 h
                  refine ⟨_, _, rfl, g26.1, g26.2.1, rfl, ?_⟩
                  refine ⟨x25.b, ((hO.arr (.head _)).rd (i := Int.toNat z1) (j := 3) lenNode g26.2.2 (by decide) (zo _ 3) rfl), ?_⟩
                  obtain ⟨q45, h⟩ := ckS h
                  refine ⟨q45, ?_⟩
                  refine ⟨fun w46 => ?_, fun w47 => ?_⟩
                  · replace w46 := bnotT w46
                    replace h := ifFd w46 h
                    obtain rfl := Option.some.inj h
                    exact hR _ hO

                  · replace w47 := bnotF w47
                    replace h := ifTd w47 h
                    refine ⟨_, _, rfl, g26.1, g26.2.1, rfl, ?_⟩
                    refine ⟨x25.b, ((hO.arr (.head _)).rd (i := Int.toNat z1) (j := 3) lenNode g26.2.2 (by decide) (zo _ 3) rfl), ?_⟩
                    obtain ⟨q48, h⟩ := ckS h
                    refine ⟨q48, ?_⟩
                    obtain ⟨r49, e50, h⟩ := bindS h
                    refine ih_211 b0 a0 m0 c0 x25.b (z2 - (1 : Int)) z3 r49 e50 _ _ _ (fr1 hO) (fun H51 hO => ?_)
                    replace hO := un1 hO
                    refine ⟨r49, rfl, ?_⟩
                    obtain rfl := Option.some.inj h
                    exact hR _ hO





          · refine c210 x25 _ rfl _ _ _ (fr0 hO) (fun H52 hO => ?_)
            replace hO := un0 hO
            refine ⟨({ (s210 x25) with r1 := (⟨((s210 x25).r1.col), ((s210 x25).r1.row), ((s210 x25).r1.ac), ((s210 x25).r1.ar)⟩ : RefT), r2 := (⟨((s210 x25).r2.col), ((s210 x25).r2.row), ((s210 x25).r2.ac), ((s210 x25).r2.ar)⟩ : RefT) }), rfl, ?_⟩
            refine ⟨x25, (hO.arr (.head _)).row (i := Int.toNat z1) lenNode g26.2.2 (Nat.zero_add _), ?_⟩
            refine ⟨fun w53 => ?_, fun w54 => ?_⟩
            · replace w53 := bnotT w53
              replace h := ifFb w53 h
              obtain rfl := Option.some.inj h
              exact hR _ hO

            · replace w54 := bnotF w54
              replace h := ifTb w54 h
              refine ⟨_, _, rfl, g26.1, g26.2.1, rfl, ?_⟩
              refine ⟨x25.a, ((hO.arr (.head _)).rd (i := Int.toNat z1) (j := 2) lenNode g26.2.2 (by decide) (zo _ 2) rfl), ?_⟩
              obtain ⟨r55, e56, h⟩ := bindS h
              refine ih_181 b0 a0 m0 c0 x25.a z3 r55 e56 _ _ _ (fr1 hO) (fun H57 hO => ?_)
              replace hO := un1 hO
              refine ⟨r55, rfl, ?_⟩
              refine ⟨fun w58 => ?_, fun w59 => ?_⟩
              · replace h := ifTd w58 h
                obtain rfl := Option.some.inj h
                exact hR _ hO

              · replace h := ifFd w59 h
                refine ⟨fun w60 => ?_, fun w61 => ?_⟩
                · replace h := ifTd w60 h
                  refine ⟨_, _, rfl, g26.1, g26.2.1, rfl, ?_⟩
                  refine ⟨x25.b, ((hO.arr (.head _)).rd (i := Int.toNat z1) (j := 3) lenNode g26.2.2 (by decide) (zo _ 3) rfl), ?_⟩
                  refine ⟨fun w62 => ?_, fun w63 => ?_⟩
                  · replace w62 := bnotT w62
                    replace h := ifFd w62 h
                    obtain rfl := Option.some.inj h
                    exact hR _ hO

                  · replace w63 := bnotF w63
                    replace h := ifTd w63 h
                    obtain rfl := Option.some.inj h
                    exact hR _ hO


                · replace h := ifFd w61 h
                  refine ⟨_, _, rfl, g26.1, g26.2.1, rfl, ?_⟩
                  refine ⟨x25.b, ((hO.arr (.head _)).rd (i := Int.toNat z1) (j := 3) lenNode g26.2.2 (by decide) (zo _ 3) rfl), ?_⟩
                  obtain ⟨q64, h⟩ := ckS h
                  refine ⟨q64, ?_⟩
                  refine ⟨fun w65 => ?_, fun w66 => ?_⟩
                  · replace w65 := bnotT w65
                    replace h := ifFd w65 h
                    obtain rfl := Option.some.inj h
                    exact hR _ hO

                  · replace w66 := bnotF w66
                    replace h := ifTd w66 h
                    refine ⟨_, _, rfl, g26.1, g26.2.1, rfl, ?_⟩
                    refine ⟨x25.b, ((hO.arr (.head _)).rd (i := Int.toNat z1) (j := 3) lenNode g26.2.2 (by decide) (zo _ 3) rfl), ?_⟩
                    obtain ⟨q67, h⟩ := ckS h
                    refine ⟨q67, ?_⟩
                    obtain ⟨r68, e69, h⟩ := bindS h
                    refine ih_211 b0 a0 m0 c0 x25.b (z2 - (1 : Int)) z3 r68 e69 _ _ _ (fr1 hO) (fun H70 hO => ?_)
                    replace hO := un1 hO
                    refine ⟨r68, rfl, ?_⟩
                    obtain rfl := Option.some.inj h
                    exact hR _ hO







      · replace w27 := bnotT w27
        replace h := ifFd w27 h
        obtain rfl := Option.some.inj h
        exact hR _ hO


    · replace h := ifTd w23 h
      obtain rfl := Option.some.inj h
      exact hR _ hO


  · replace h := ifTd w21 h
    obtain rfl := Option.some.inj h
    exact hR _ hO


theorem crc181 (n_ : Nat) : ∀ m, K181 ((rc181 n_ m).1) ∧ K211 ((rc181 n_ m).2) := by
  intro m
  induction m with
  | zero => exact ⟨by unfold K181; intros; rename_i h F H R hO hR; exact absurd h (by simp [rc181]), by unfold K211; intros; rename_i h F H R hO hR; exact absurd h (by simp [rc181])⟩
  | succ m ih =>
    obtain ⟨ih_181, ih_211⟩ := ih
    exact ⟨c181_b n_ _ _ ih_181 ih_211, c211_b n_ _ _ ih_181 ih_211⟩
theorem c181 (n_ : Nat) : K181 (s181 n_) := (crc181 n_ n_).1
theorem c211 (n_ : Nat) : K211 (s211 n_) := (crc181 n_ n_).2

theorem c142 (n_ : Nat) (b0 : Nat) (t0 : TreeV) (c0 : Nat) (r_ : Bool) (h : s142 n_ t0 = some r_) (F : List Ent) (H : Heap) (R : Value → Heap → Prop)
    (hO : Own H [cellE 153 b0 (List.flatMap encNode t0.nodes)] F)
    (hR : ∀ (H' : Heap) , Own H' [cellE 153 b0 (List.flatMap encNode t0.nodes)] F → R (.bool r_) H') :
    HCalls Tryz.prog 142 #[Value.agg ⟨encTree ⟨some ⟨b0, 0, none⟩, t0.nodes.length, c0, t0.root, t0.err, t0.pos⟩⟩] H R := by
  refine vc142 ⟨some ⟨b0, 0, none⟩, t0.nodes.length, c0, t0.root, t0.err, t0.pos⟩ H R ?_
  unfold s142 at h
  intro H21 eH21
  replace hO := own_new (l := [Value.slice (some ⟨b0, 0, none⟩) t0.nodes.length c0, I t0.root, I t0.err, I t0.pos]) hO eH21 rfl
  refine ⟨t0.err, ((hO.blk (.head _)).rdv rfl), ?_⟩
  refine ⟨fun w23 => ?_, fun w22 => ?_⟩
  · replace w23 := bnotF w23
    replace h := ifTd w23 h
    refine ⟨t0.pos, ((hO.blk (.head _)).rdv rfl), ?_⟩
    refine ⟨fun w25 => ?_, fun w24 => ?_⟩
    · replace w25 := bnotF w25
      replace h := ifTd w25 h
      refine ⟨(some ⟨b0, 0, none⟩), t0.nodes.length, c0, ((hO.blk (.head _)).rdv rfl), ?_⟩
      refine ⟨fun w27 => ?_, fun w26 => ?_⟩
      · replace h := ifFd w27 h
        refine ⟨(some ⟨b0, 0, none⟩), t0.nodes.length, c0, ((hO.blk (.head _)).rdv rfl), ?_⟩
        refine ⟨fun w29 => ?_, fun w28 => ?_⟩
        · replace h := ifFd w29 h
          refine ⟨t0.root, ((hO.blk (.head _)).rdv rfl), ?_⟩
          refine ⟨(some ⟨b0, 0, none⟩), t0.nodes.length, c0, ((hO.blk (.head _)).rdv rfl), ?_⟩
          obtain ⟨q30, h⟩ := ckS h
          refine ⟨q30, ?_⟩
          refine ⟨fun w31 => ?_, fun w32 => ?_⟩
          · replace w31 := bnotT w31
            replace h := ifFd w31 h
            obtain rfl := Option.some.inj h
            exact hR _ (dr1 (pu1 hO))

          · replace w32 := bnotF w32
            replace h := ifTd w32 h
            refine ⟨fun l Hc => ∃ m : Nat, Own Hc [cellE 131 H.size [Value.slice (some ⟨b0, 0, none⟩) t0.nodes.length c0, I t0.root, I t0.err, I t0.pos], cellE 153 b0 (List.flatMap encNode t0.nodes)] F ∧ (l142_0 n_ t0 m (asI (nth l 0))) = some r_, fun l Hc => Classical.epsilon <| lsp fun m => Own Hc [cellE 131 H.size [Value.slice (some ⟨b0, 0, none⟩) t0.nodes.length c0, I t0.root, I t0.err, I t0.pos], cellE 153 b0 (List.flatMap encNode t0.nodes)] F ∧ (l142_0 n_ t0 m (asI (nth l 0))) = some r_, ?_, ?_⟩
            · exact ⟨n_, hO, h⟩
            · clear hO h
              intro H33 u34 x35 hJ
              obtain ⟨m65, hm37, hJ⟩ := lst_get hJ
              obtain ⟨hO, h⟩ := hJ
              rcases m65 with _ | k64
              · exact absurd h (by simp [l142_0, asI, asB, asC, asS])
              obtain ⟨rec36, hrec36, h⟩ : ∃ f_, f_ = l142_0 n_ t0 k64 ∧ (l142_0_st n_ t0 f_ x35) = some r_ := ⟨_, rfl, h⟩
              unfold l142_0_st at h
              refine ⟨(some ⟨b0, 0, none⟩), t0.nodes.length, c0, ((hO.blk (.head _)).rdv rfl), ?_⟩
              refine ⟨fun w38 => ?_, fun w39 => ?_⟩
              · replace h := ifTd w38 h
                refine ⟨(some ⟨b0, 0, none⟩), t0.nodes.length, c0, ((hO.blk (.head _)).rdv rfl), ?_⟩
                obtain ⟨x40, g41, h⟩ := getS h
                refine ⟨_, _, rfl, g41.1, g41.2.1, rfl, ?_⟩
                refine ⟨x40, (hO.arr (.tail _ (.head _))).row (i := Int.toNat x35) lenNode g41.2.2 (Nat.zero_add _), ?_⟩
                intro H42 eH42
                replace hO := own_new (l := encNode (⟨(0 : Int), (0 : Int), (0 : Int), (0 : Int), (0 : Int), (⟨(0 : Int), (0 : Int), false, false⟩ : RefT), (⟨(0 : Int), (0 : Int), false, false⟩ : RefT)⟩ : NodeT)) hO eH42 rfl
                refine ⟨(hO.blk (.head _)).wr (Nat.le_of_ble_eq_true rfl), ?_⟩
                intro H43 eH43
                replace hO := oz0 (l' := encNode x40) hO eH43 rfl
                refine ⟨x40.r1.col, ((hO.blk (.head _)).rdv rfl), ?_⟩
                refine ⟨fun w45 => ?_, fun w44 => ?_⟩
                · replace h := ifFd w45 h
                  refine ⟨x40.r1.col, ((hO.blk (.head _)).rdv rfl), ?_⟩
                  refine ⟨fun w47 => ?_, fun w46 => ?_⟩
                  · replace h := ifFd w47 h
                    refine ⟨x40.r1.row, ((hO.blk (.head _)).rdv rfl), ?_⟩
                    refine ⟨fun w49 => ?_, fun w48 => ?_⟩
                    · replace h := ifFd w49 h
                      refine ⟨x40.r1.row, ((hO.blk (.head _)).rdv rfl), ?_⟩
                      refine ⟨fun w50 => ?_, fun w51 => ?_⟩
                      · replace h := ifTd w50 h
                        obtain rfl := Option.some.inj h
                        exact hR _ (dr1 (dr1 (pu2 hO)))

                      · replace h := ifFd w51 h
                        refine ⟨x40.r2.col, ((hO.blk (.head _)).rdv rfl), ?_⟩
                        refine ⟨fun w53 => ?_, fun w52 => ?_⟩
                        · replace h := ifFd w53 h
                          refine ⟨x40.r2.col, ((hO.blk (.head _)).rdv rfl), ?_⟩
                          refine ⟨fun w55 => ?_, fun w54 => ?_⟩
                          · replace h := ifFd w55 h
                            refine ⟨x40.r2.row, ((hO.blk (.head _)).rdv rfl), ?_⟩
                            refine ⟨fun w57 => ?_, fun w56 => ?_⟩
                            · replace h := ifFd w57 h
                              refine ⟨x40.r2.row, ((hO.blk (.head _)).rdv rfl), ?_⟩
                              refine ⟨fun w58 => ?_, fun w59 => ?_⟩
                              · replace h := ifTd w58 h
                                obtain rfl := Option.some.inj h
                                exact hR _ (dr1 (dr1 (pu2 hO)))

                              · replace h := ifFd w59 h
                                obtain ⟨q60, h⟩ := ckS h
                                refine ⟨_, .inl ⟨q60, rfl⟩, ?_⟩
                                replace hO := dr2 (pu2 (pu2 hO))
                                subst hrec36
                                exact lst_step hm37 ⟨hO, h⟩


                            · replace h := ifTd w56 h
                              obtain rfl := Option.some.inj h
                              exact hR _ (dr1 (dr1 (pu2 hO)))


                          · replace h := ifTd w54 h
                            obtain rfl := Option.some.inj h
                            exact hR _ (dr1 (dr1 (pu2 hO)))


                        · replace h := ifTd w52 h
                          obtain rfl := Option.some.inj h
                          exact hR _ (dr1 (dr1 (pu2 hO)))



                    · replace h := ifTd w48 h
                      obtain rfl := Option.some.inj h
                      exact hR _ (dr1 (dr1 (pu2 hO)))


                  · replace h := ifTd w46 h
                    obtain rfl := Option.some.inj h
                    exact hR _ (dr1 (dr1 (pu2 hO)))


                · replace h := ifTd w44 h
                  obtain rfl := Option.some.inj h
                  exact hR _ (dr1 (dr1 (pu2 hO)))


              · replace h := ifFd w39 h
                refine ⟨(some ⟨b0, 0, none⟩), t0.nodes.length, c0, ((hO.blk (.head _)).rdv rfl), ?_⟩
                refine ⟨t0.root, ((hO.blk (.head _)).rdv rfl), ?_⟩
                obtain ⟨r61, e62, h⟩ := bindS h
                refine c181 n_ b0 t0.nodes t0.nodes.length c0 t0.root false r61 e62 _ _ _ (fr1 (pu1 hO)) (fun H63 hO => ?_)
                replace hO := un1 hO
                refine ⟨r61, rfl, ?_⟩
                obtain rfl := Option.some.inj h
                exact hR _ (dr1 (hO))




        · replace h := ifTd w28 h
          obtain rfl := Option.some.inj h
          exact hR _ (dr1 (pu1 hO))


      · replace h := ifTd w26 h
        obtain rfl := Option.some.inj h
        exact hR _ (dr1 (pu1 hO))


    · replace w24 := bnotT w24
      replace h := ifFd w24 h
      obtain rfl := Option.some.inj h
      exact hR _ (dr1 (pu1 hO))


  · replace w22 := bnotT w22
    replace h := ifFd w22 h
    obtain rfl := Option.some.inj h
    exact hR _ (dr1 (pu1 hO))



theorem c182 (z0 : Nat) (L0 : FL) (S0 : FoS) (z1 : Int) (r_ : FoS) (h : s182 S0 z1 = some r_) (F : List Ent) (H : Heap) (R : Value → Heap → Prop)
    (hO : Own H [oF z0 L0 S0] F)
    (hR : ∀ (H' : Heap) , Own H' [oF z0 L0 r_] F → R (.tuple #[]) H') :
    HCalls Tryz.prog 182 #[Value.pointer (some ⟨z0, 0, none⟩), Value.int .u8 z1] H R := by
  refine vc182 z0 z1 H R ?_
  unfold s182 at h
  replace hO := open_F (pu0 hO)
  refine ⟨S0.w, ((hO.blk (.head _)).rdv rfl), ?_⟩
  obtain ⟨q21, h⟩ := ckS h
  refine ⟨q21, ?_⟩
  refine ⟨(hO.blk (.head _)).wr (Nat.le_of_ble_eq_true rfl), ?_⟩
  intro H22 eH22
  replace hO := os0 (l' := [Value.slice (some ⟨L0.toks, 0, none⟩) 41 41, I S0.nt, I S0.k, I S0.pos, Value.slice (some ⟨L0.arena, 0, none⟩) 24 24, I S0.nn, Value.slice (some ⟨L0.opnd, 0, none⟩) 41 41, I S0.nv, Value.slice (some ⟨L0.ops, 0, none⟩) 41 41, I S0.no, Value.bool S0.have_, Value.bool S0.done, I S0.err, I S0.bad, Value.slice (some ⟨L0.notes, 0, none⟩) 24 24, Value.slice (some ⟨L0.out, 0, none⟩) 288 288, I (S0.w - (1 : Int))]) hO eH22 rfl
  refine ⟨(some ⟨L0.out, 0, none⟩), 288, 288, ((hO.blk (.head _)).rdv rfl), ?_⟩
  refine ⟨(S0.w - (1 : Int)), ((hO.blk (.head _)).rdv rfl), ?_⟩
  obtain ⟨x23, g24, h⟩ := getS h
  refine ⟨_, _, rfl, g24.1, g24.2.1, rfl, ?_⟩
  refine ⟨((hO.arr (.tail _ (.tail _ (.tail _ (.tail _ (.tail _ (.tail _ (.head _)))))))).wr1 lenC (i := Int.toNat (S0.w - (1 : Int))) (j := 0) (getLt g24.2.2) (Nat.le_of_ble_eq_true rfl) (zo0 _)), ?_⟩
  intro H25 eH25
  replace hO := os6 (l' := List.flatMap encC (List.set S0.out (Int.toNat (S0.w - (1 : Int))) z1)) hO eH25 (flat_set1 lenC (i := Int.toNat (S0.w - (1 : Int))) (j := 0) g24.2.2 (by decide) (zo0 _) rfl)
  replace hO := close_F L0 ({ S0 with out := (List.set S0.out (Int.toNat (S0.w - (1 : Int))) z1), w := S0.w - (1 : Int) }) (hO)
  obtain rfl := Option.some.inj h
  exact hR _ hO


theorem c183 (z0 : Nat) (L0 : FL) (S0 : FoS) (b1 : Nat) (a1 : List NodeT) (m1 c1 : Nat) (z2 : Int) (z3 : Int) (z4 : Int) (r_ : FoS) (h : s183 S0 a1 m1 z2 z3 z4 = some r_) (F : List Ent) (H : Heap) (R : Value → Heap → Prop)
    (hO : Own H [oF z0 L0 S0, cellE 153 b1 (List.flatMap encNode a1)] F)
    (hR : ∀ (H' : Heap) , Own H' [oF z0 L0 r_, cellE 153 b1 (List.flatMap encNode a1)] F → R (.tuple #[]) H') :
    HCalls Tryz.prog 183 #[Value.pointer (some ⟨z0, 0, none⟩), Value.slice (some ⟨b1, 0, none⟩) m1 c1, I z2, I z3, I z4] H R := by
  refine vc183 z0 (some ⟨b1, 0, none⟩) m1 c1 z2 z3 z4 H R ?_
  unfold s183 at h
  refine ⟨fun l Hc => Own Hc [oF z0 L0 S0, cellE 153 b1 (List.flatMap encNode a1)] F ∧ (k183_0 S0 z2 z3 z4 (asI (nth l 0))) = some r_, ?_, ?_⟩
  · obtain ⟨x27, g28, h⟩ := getS h
    refine ⟨_, _, rfl, g28.1, g28.2.1, rfl, ?_⟩
    refine ⟨x27.kind, ((hO.arr (.tail _ (.head _))).rd (i := Int.toNat z2) (j := 0) lenNode g28.2.2 (by decide) (zo0 _) rfl), ?_⟩
    refine ⟨fun w29 => ?_, fun w30 => ?_⟩
    · replace h := ifTd w29 h
      exact ⟨hO, h⟩

    · replace h := ifFd w30 h
      refine ⟨_, _, rfl, g28.1, g28.2.1, rfl, ?_⟩
      refine ⟨x27.kind, ((hO.arr (.tail _ (.head _))).rd (i := Int.toNat z2) (j := 0) lenNode g28.2.2 (by decide) (zo0 _) rfl), ?_⟩
      refine ⟨fun w31 => ?_, fun w32 => ?_⟩
      · replace h := ifTd w31 h
        refine ⟨_, _, rfl, g28.1, g28.2.1, rfl, ?_⟩
        refine ⟨x27.op, ((hO.arr (.tail _ (.head _))).rd (i := Int.toNat z2) (j := 1) lenNode g28.2.2 (by decide) (zo _ 1) rfl), ?_⟩
        refine c169 x27.op _ rfl _ _ _ (fr0 hO) (fun H33 hO => ?_)
        replace hO := un0 hO
        refine ⟨(s169 x27.op), rfl, ?_⟩
        exact ⟨hO, h⟩

      · replace h := ifFd w32 h
        exact ⟨hO, h⟩



  · clear hO h
    intro H21 u22 x23 hJ
    obtain ⟨hO, h⟩ := hJ
    replace h : (k183_0 S0 z2 z3 z4 x23) = some r_ := h
    unfold k183_0 at h
    replace hO := open_F (pu0 hO)
    refine ⟨(some ⟨L0.notes, 0, none⟩), 24, 24, ((hO.blk (.head _)).rdv rfl), ?_⟩
    obtain ⟨x24, g25, h⟩ := getS h
    refine ⟨_, _, rfl, g25.1, g25.2.1, rfl, ?_⟩
    refine ⟨((hO.arr (.tail _ (.tail _ (.tail _ (.tail _ (.tail _ (.head _))))))).wr1 lenNote (i := Int.toNat z2) (j := 0) (getLt g25.2.2) (Nat.le_of_ble_eq_true rfl) (zo0 _)), ?_⟩
    intro H26 eH26
    replace hO := oz5 (l' := List.flatMap encNote (List.set S0.notes (Int.toNat z2) (⟨z3, (decide (x23 < z4))⟩ : NoteT))) hO eH26 (flat_put1 lenNote (i := Int.toNat z2) (x := (⟨z3, (decide (x23 < z4))⟩ : NoteT)) (getLt g25.2.2) (Nat.zero_add _))
    replace hO := close_F L0 ({ S0 with notes := (List.set S0.notes (Int.toNat z2) (⟨z3, (decide (x23 < z4))⟩ : NoteT)) }) (hO)
    obtain rfl := Option.some.inj h
    exact hR _ hO



theorem c212 (n_ : Nat) (z0 : Nat) (L0 : FL) (S0 : FoS) (z1 : Int) (r_ : FoS) (h : s212 n_ S0 z1 = some r_) (F : List Ent) (H : Heap) (R : Value → Heap → Prop)
    (hO : Own H [oF z0 L0 S0] F)
    (hR : ∀ (H' : Heap) , Own H' [oF z0 L0 r_] F → R (.tuple #[]) H') :
    HCalls Tryz.prog 212 #[Value.pointer (some ⟨z0, 0, none⟩), I z1] H R := by
  refine vc212 z0 z1 H R ?_
  unfold s212 at h
  refine ⟨fun l Hc => ∃ m : Nat, ∃ S38 : FoS, Own Hc [oF z0 L0 S38] F ∧ (l212_0 n_ m (asI (nth l 0)) (asI (nth l 1)) S38) = some r_, fun l Hc => Classical.epsilon <| lsp fun m => ∃ S38 : FoS, Own Hc [oF z0 L0 S38] F ∧ (l212_0 n_ m (asI (nth l 0)) (asI (nth l 1)) S38) = some r_, ?_, ?_⟩
  · exact ⟨n_, S0, hO, h⟩
  · clear hO h
    intro H39 u40 x41 x42 hJ
    obtain ⟨m57, hm44, hJ⟩ := lst_get hJ
    obtain ⟨S38, hO, h⟩ := hJ
    rcases m57 with _ | k56
    · exact absurd h (by simp [l212_0, asI, asB, asC, asS])
    obtain ⟨rec43, hrec43, h⟩ : ∃ f_, f_ = l212_0 n_ k56 ∧ (l212_0_st n_ f_ x41 x42 S38) = some r_ := ⟨_, rfl, h⟩
    unfold l212_0_st at h
    refine ⟨fun w45 => ?_, fun w46 => ?_⟩
    · replace h := ifTd w45 h
      refine ⟨(by decide), ?_⟩
      obtain ⟨q47, h⟩ := ckS h
      refine ⟨_, .inl ⟨q47, rfl⟩, ?_⟩
      obtain ⟨q48, h⟩ := ckS h
      refine ⟨q48, ?_⟩
      obtain ⟨r49, e50, h⟩ := bindS h
      refine c182 z0 L0 S38 ((48 : Int) + (Int.tmod x41 (10 : Int))) r49 e50 _ _ _ (fr1 hO) (fun H51 hO => ?_)
      replace hO := un1 hO
      obtain ⟨q52, h⟩ := ckS h
      refine ⟨(by decide), q52, ?_⟩
      refine ⟨fun w53 => ?_, fun w54 => ?_⟩
      · replace h := ifTd w53 h
        obtain rfl := Option.some.inj h
        exact hR _ hO

      · replace h := ifFd w54 h
        obtain ⟨q55, h⟩ := ckS h
        refine ⟨_, .inl ⟨q55, rfl⟩, ?_⟩
        subst hrec43
        exact lst_step hm44 ⟨r49, hO, h⟩


    · replace h := ifFd w46 h
      obtain rfl := Option.some.inj h
      exact hR _ hO




theorem c213 (n_ : Nat) (z0 : Nat) (L0 : FL) (S0 : FoS) (z1 : List UInt8) (r_ : FoS) (h : s213 n_ S0 z1 = some r_) (F : List Ent) (H : Heap) (R : Value → Heap → Prop)
    (hO : Own H [oF z0 L0 S0] F)
    (hR : ∀ (H' : Heap) , Own H' [oF z0 L0 r_] F → R (.tuple #[]) H') :
    HCalls Tryz.prog 213 #[Value.pointer (some ⟨z0, 0, none⟩), str z1] H R := by
  refine vc213 z0 z1 H R ?_
  unfold s213 at h
  obtain ⟨q21, h⟩ := ckS h
  refine ⟨q21, ?_⟩
  refine ⟨fun l Hc => ∃ m : Nat, ∃ S34 : FoS, Own Hc [oF z0 L0 S34] F ∧ (l213_0 n_ z1 m (asI (nth l 0)) S34) = some r_, fun l Hc => Classical.epsilon <| lsp fun m => ∃ S34 : FoS, Own Hc [oF z0 L0 S34] F ∧ (l213_0 n_ z1 m (asI (nth l 0)) S34) = some r_, ?_, ?_⟩
  · exact ⟨n_, S0, hO, h⟩
  · clear hO h
    intro H35 u36 x37 hJ
    obtain ⟨m48, hm39, hJ⟩ := lst_get hJ
    obtain ⟨S34, hO, h⟩ := hJ
    rcases m48 with _ | k47
    · exact absurd h (by simp [l213_0, asI, asB, asC, asS])
    obtain ⟨rec38, hrec38, h⟩ : ∃ f_, f_ = l213_0 n_ z1 k47 ∧ (l213_0_st n_ z1 f_ x37 S34) = some r_ := ⟨_, rfl, h⟩
    unfold l213_0_st at h
    refine ⟨fun w40 => ?_, fun w41 => ?_⟩
    · replace h := ifTd w40 h
      obtain ⟨q42, h⟩ := ckS h
      refine ⟨q42.1, q42.2, ?_⟩
      obtain ⟨r43, e44, h⟩ := bindS h
      refine c182 z0 L0 S34 ((List.getD z1 (Int.toNat x37) 0).toNat : Int) r43 e44 _ _ _ (fr1 hO) (fun H45 hO => ?_)
      replace hO := un1 hO
      obtain ⟨q46, h⟩ := ckS h
      refine ⟨q46, ?_⟩
      subst hrec38
      exact lst_step hm39 ⟨r43, hO, h⟩

    · replace h := ifFd w41 h
      obtain rfl := Option.some.inj h
      exact hR _ hO




theorem c214 (n_ : Nat) (z0 : Nat) (L0 : FL) (S0 : FoS) (z1 : RefT) (r_ : FoS) (h : s214 n_ S0 z1 = some r_) (F : List Ent) (H : Heap) (R : Value → Heap → Prop)
    (hO : Own H [oF z0 L0 S0] F)
    (hR : ∀ (H' : Heap) , Own H' [oF z0 L0 r_] F → R (.tuple #[]) H') :
    HCalls Tryz.prog 214 #[Value.pointer (some ⟨z0, 0, none⟩), Value.agg ⟨encRef z1⟩] H R := by
  refine vc214 z0 z1 H R ?_
  unfold s214 at h
  intro H21 eH21
  replace hO := own_new (l := encRef z1) hO eH21 rfl
  refine ⟨z1.row, ((hO.blk (.head _)).rdv rfl), ?_⟩
  obtain ⟨q22, h⟩ := ckS h
  refine ⟨_, .inl ⟨q22, rfl⟩, ?_⟩
  obtain ⟨r23, e24, h⟩ := bindS h
  refine c212 n_ z0 L0 S0 (z1.row + (1 : Int)) r23 e24 _ _ _ (fr1 (pu1 hO)) (fun H25 hO => ?_)
  replace hO := un1 hO
  refine ⟨fun l Hc => ∃ S43 : FoS, Own Hc [oF z0 L0 S43, cellE 151 H.size (encRef z1)] F ∧ (k214_1 z1 S43) = some r_, ?_, ?_⟩
  · refine ⟨z1.ar, ((hO.blk (.tail _ (.head _))).rdv rfl), ?_⟩
    refine ⟨fun w56 => ?_, fun w57 => ?_⟩
    · replace h := ifTb w56 h
      obtain ⟨r58, e59, h⟩ := bindS h
      refine c182 z0 L0 r23 (36 : Int) r58 e59 _ _ _ (fr1 hO) (fun H60 hO => ?_)
      replace hO := un1 hO
      exact ⟨r58, hO, h⟩

    · replace h := ifFb w57 h
      exact ⟨r23, hO, h⟩


  · clear hO h
    intro H44 u45  hJ
    obtain ⟨S43, hO, h⟩ := hJ
    replace h : (k214_1 z1 S43) = some r_ := h
    unfold k214_1 at h
    refine ⟨z1.col, ((hO.blk (.tail _ (.head _))).rdv rfl), ?_⟩
    obtain ⟨q46, h⟩ := ckS h
    refine ⟨_, .inl ⟨q46, rfl⟩, ?_⟩
    obtain ⟨q47, h⟩ := ckS h
    refine ⟨q47, ?_⟩
    obtain ⟨r48, e49, h⟩ := bindS h
    refine c182 z0 L0 S43 ((65 : Int) + z1.col) r48 e49 _ _ _ (fr1 hO) (fun H50 hO => ?_)
    replace hO := un1 hO
    refine ⟨z1.ac, ((hO.blk (.tail _ (.head _))).rdv rfl), ?_⟩
    refine ⟨fun w51 => ?_, fun w52 => ?_⟩
    · replace h := ifTb w51 h
      obtain ⟨r53, e54, h⟩ := bindS h
      refine c182 z0 L0 r48 (36 : Int) r53 e54 _ _ _ (fr1 hO) (fun H55 hO => ?_)
      replace hO := un1 hO
      obtain rfl := Option.some.inj h
      exact hR _ (dr1 (hO))

    · replace h := ifFb w52 h
      obtain rfl := Option.some.inj h
      exact hR _ (dr1 (hO))




theorem c184 (n_ : Nat) (z0 : Nat) (L0 : FL) (S0 : FoS) (z1 : NodeT) (r_ : FoS) (h : s184 n_ S0 z1 = some r_) (F : List Ent) (H : Heap) (R : Value → Heap → Prop)
    (hO : Own H [oF z0 L0 S0] F)
    (hR : ∀ (H' : Heap) , Own H' [oF z0 L0 r_] F → R (.tuple #[]) H') :
    HCalls Tryz.prog 184 #[Value.pointer (some ⟨z0, 0, none⟩), Value.agg ⟨encNode z1⟩] H R := by
  refine vc184 z0 z1 H R ?_
  unfold s184 at h
  intro H21 eH21
  replace hO := own_new (l := encNode z1) hO eH21 rfl
  refine ⟨z1.kind, ((hO.blk (.head _)).rdv rfl), ?_⟩
  refine ⟨fun w22 => ?_, fun w23 => ?_⟩
  · replace h := ifTd w22 h
    refine ⟨z1.n, ((hO.blk (.head _)).rdv rfl), ?_⟩
    obtain ⟨r24, e25, h⟩ := bindS h
    refine c212 n_ z0 L0 S0 z1.n r24 e25 _ _ _ (fr1 (pu1 hO)) (fun H26 hO => ?_)
    replace hO := un1 hO
    obtain rfl := Option.some.inj h
    exact hR _ (dr1 (hO))

  · replace h := ifFd w23 h
    refine ⟨fun w27 => ?_, fun w28 => ?_⟩
    · replace h := ifTd w27 h
      refine ⟨z1.n, ((hO.blk (.head _)).rdv rfl), ?_⟩
      refine ⟨fun w29 => ?_, fun w30 => ?_⟩
      · replace h := ifTd w29 h
        obtain ⟨r31, e32, h⟩ := bindS h
        refine c213 n_ z0 L0 S0 ([84, 82, 85, 69] : List UInt8) r31 e32 _ _ _ (fr1 (pu1 hO)) (fun H33 hO => ?_)
        replace hO := un1 hO
        obtain rfl := Option.some.inj h
        exact hR _ (dr1 (hO))

      · replace h := ifFd w30 h
        obtain ⟨r34, e35, h⟩ := bindS h
        refine c213 n_ z0 L0 S0 ([70, 65, 76, 83, 69] : List UInt8) r34 e35 _ _ _ (fr1 (pu1 hO)) (fun H36 hO => ?_)
        replace hO := un1 hO
        obtain rfl := Option.some.inj h
        exact hR _ (dr1 (hO))


    · replace h := ifFd w28 h
      refine ⟨fun w37 => ?_, fun w38 => ?_⟩
      · replace h := ifTd w37 h
        refine ⟨z1.r1, (hO.blk (.head _)).rowT rfl, ?_⟩
        obtain ⟨r39, e40, h⟩ := bindS h
        refine c214 n_ z0 L0 S0 z1.r1 r39 e40 _ _ _ (fr1 (pu1 hO)) (fun H41 hO => ?_)
        replace hO := un1 hO
        obtain rfl := Option.some.inj h
        exact hR _ (dr1 (hO))

      · replace h := ifFd w38 h
        refine ⟨fun w42 => ?_, fun w43 => ?_⟩
        · replace h := ifTd w42 h
          refine ⟨z1.r2, (hO.blk (.head _)).rowT rfl, ?_⟩
          obtain ⟨r44, e45, h⟩ := bindS h
          refine c214 n_ z0 L0 S0 z1.r2 r44 e45 _ _ _ (fr1 (pu1 hO)) (fun H46 hO => ?_)
          replace hO := un1 hO
          obtain ⟨r47, e48, h⟩ := bindS h
          refine c182 z0 L0 r44 (58 : Int) r47 e48 _ _ _ (fr1 hO) (fun H49 hO => ?_)
          replace hO := un1 hO
          refine ⟨z1.r1, (hO.blk (.tail _ (.head _))).rowT rfl, ?_⟩
          obtain ⟨r50, e51, h⟩ := bindS h
          refine c214 n_ z0 L0 r47 z1.r1 r50 e51 _ _ _ (fr1 hO) (fun H52 hO => ?_)
          replace hO := un1 hO
          obtain rfl := Option.some.inj h
          exact hR _ (dr1 (hO))

        · replace h := ifFd w43 h
          obtain ⟨r53, e54, h⟩ := bindS h
          refine c213 n_ z0 L0 S0 ([35, 35] : List UInt8) r53 e54 _ _ _ (fr1 (pu1 hO)) (fun H55 hO => ?_)
          replace hO := un1 hO
          obtain rfl := Option.some.inj h
          exact hR _ (dr1 (hO))






theorem c215 (z0 : Nat) (L0 : FL) (S0 : FoS) (z1 : Int) (r_ : FoS) (h : s215 S0 z1 = some r_) (F : List Ent) (H : Heap) (R : Value → Heap → Prop)
    (hO : Own H [oF z0 L0 S0] F)
    (hR : ∀ (H' : Heap) , Own H' [oF z0 L0 r_] F → R (.tuple #[]) H') :
    HCalls Tryz.prog 215 #[Value.pointer (some ⟨z0, 0, none⟩), I z1] H R := by
  refine vc215 z0 z1 H R ?_
  unfold s215 at h
  refine ⟨fun l Hc => ∃ S37 : FoS, Own Hc [oF z0 L0 S37] F ∧ (k215_1 z1 S37) = some r_, ?_, ?_⟩
  · obtain ⟨q46, h⟩ := ckS h
    refine ⟨q46, ?_⟩
    obtain ⟨q47, h⟩ := ckS h
    refine ⟨q47, ?_⟩
    obtain ⟨q48, h⟩ := ckS h
    refine ⟨q48.1, q48.2, ?_⟩
    refine ⟨fun w49 => ?_, fun w50 => ?_⟩
    · replace w49 := bnotT w49
      replace h := ifFd w49 h
      refine ⟨q46, ?_⟩
      refine ⟨q47, ?_⟩
      refine ⟨q48.1, q48.2, ?_⟩
      obtain ⟨r51, e52, h⟩ := bindS h
      refine c182 z0 L0 S0 ((List.getD ([61, 32, 60, 62, 60, 32, 60, 61, 62, 32, 62, 61, 43, 32, 45, 32, 42, 32, 47, 32] : List UInt8) (Int.toNat (((2 : Int) * z1) - (1 : Int))) 0).toNat : Int) r51 e52 _ _ _ (fr1 hO) (fun H53 hO => ?_)
      replace hO := un1 hO
      exact ⟨r51, hO, h⟩

    · replace w50 := bnotF w50
      replace h := ifTd w50 h
      exact ⟨S0, hO, h⟩


  · clear hO h
    intro H38 u39  hJ
    obtain ⟨S37, hO, h⟩ := hJ
    replace h : (k215_1 z1 S37) = some r_ := h
    unfold k215_1 at h
    obtain ⟨q40, h⟩ := ckS h
    refine ⟨q40, ?_⟩
    obtain ⟨q41, h⟩ := ckS h
    refine ⟨q41, ?_⟩
    obtain ⟨q42, h⟩ := ckS h
    refine ⟨q42.1, q42.2, ?_⟩
    obtain ⟨r43, e44, h⟩ := bindS h
    refine c182 z0 L0 S37 ((List.getD ([61, 32, 60, 62, 60, 32, 60, 61, 62, 32, 62, 61, 43, 32, 45, 32, 42, 32, 47, 32] : List UInt8) (Int.toNat (((2 : Int) * z1) - (2 : Int))) 0).toNat : Int) r43 e44 _ _ _ (fr1 hO) (fun H45 hO => ?_)
    replace hO := un1 hO
    obtain rfl := Option.some.inj h
    exact hR _ hO



theorem c185 (n_ : Nat) (z0 : Nat) (L0 : FL) (S0 : FoS) (b1 : Nat) (a1 : List NodeT) (m1 c1 : Nat) (z2 : Int) (r_ : FoS) (h : s185 n_ S0 a1 m1 z2 = some r_) (F : List Ent) (H : Heap) (R : Value → Heap → Prop)
    (hO : Own H [oF z0 L0 S0, cellE 153 b1 (List.flatMap encNode a1)] F)
    (hR : ∀ (H' : Heap) , Own H' [oF z0 L0 r_, cellE 153 b1 (List.flatMap encNode a1)] F → R (.tuple #[]) H') :
    HCalls Tryz.prog 185 #[Value.pointer (some ⟨z0, 0, none⟩), Value.slice (some ⟨b1, 0, none⟩) m1 c1, I z2] H R := by
  refine vc185 z0 (some ⟨b1, 0, none⟩) m1 c1 z2 H R ?_
  unfold s185 at h
  refine ⟨fun l Hc => ∃ m : Nat, ∃ S43 : FoS, Own Hc [oF z0 L0 S43, cellE 153 b1 (List.flatMap encNode a1)] F ∧ (l185_2 n_ a1 m1 m (asI (nth l 0)) S43) = some r_, fun l Hc => Classical.epsilon <| lsp fun m => ∃ S43 : FoS, Own Hc [oF z0 L0 S43, cellE 153 b1 (List.flatMap encNode a1)] F ∧ (l185_2 n_ a1 m1 m (asI (nth l 0)) S43) = some r_, ?_, ?_⟩
  · exact ⟨n_, S0, hO, h⟩
  · clear hO h
    intro H44 u45 x46 hJ
    obtain ⟨m110, hm48, hJ⟩ := lst_get hJ
    obtain ⟨S43, hO, h⟩ := hJ
    rcases m110 with _ | k109
    · exact absurd h (by simp [l185_2, asI, asB, asC, asS])
    obtain ⟨rec47, hrec47, h⟩ : ∃ f_, f_ = l185_2 n_ a1 m1 k109 ∧ (l185_2_st n_ a1 m1 f_ x46 S43) = some r_ := ⟨_, rfl, h⟩
    unfold l185_2_st at h
    replace hO := open_F (pu0 hO)
    refine ⟨(some ⟨L0.notes, 0, none⟩), 24, 24, ((hO.blk (.head _)).rdv rfl), ?_⟩
    obtain ⟨x49, g50, h⟩ := getS h
    refine ⟨_, _, rfl, g50.1, g50.2.1, rfl, ?_⟩
    refine ⟨x49.up, ((hO.arr (.tail _ (.tail _ (.tail _ (.tail _ (.tail _ (.head _))))))).rd (i := Int.toNat x46) (j := 0) lenNote g50.2.2 (by decide) (zo0 _) rfl), ?_⟩
    refine ⟨fun w51 => ?_, fun w52 => ?_⟩
    · replace h := ifTd w51 h
      refine ⟨(some ⟨L0.notes, 0, none⟩), 24, 24, ((hO.blk (.head _)).rdv rfl), ?_⟩
      refine ⟨_, _, rfl, g50.1, g50.2.1, rfl, ?_⟩
      refine ⟨x49.up, ((hO.arr (.tail _ (.tail _ (.tail _ (.tail _ (.tail _ (.head _))))))).rd (i := Int.toNat x46) (j := 0) lenNote g50.2.2 (by decide) (zo0 _) rfl), ?_⟩
      obtain ⟨x53, g54, h⟩ := getS h
      refine ⟨_, _, rfl, g54.1, g54.2.1, rfl, ?_⟩
      refine ⟨x53, (hO.arr (.tail _ (.tail _ (.tail _ (.tail _ (.tail _ (.tail _ (.tail _ (.head _))))))))).row (i := Int.toNat x49.up) lenNode g54.2.2 (Nat.zero_add _), ?_⟩
      intro H55 eH55
      replace hO := own_new (l := encNode (⟨(0 : Int), (0 : Int), (0 : Int), (0 : Int), (0 : Int), (⟨(0 : Int), (0 : Int), false, false⟩ : RefT), (⟨(0 : Int), (0 : Int), false, false⟩ : RefT)⟩ : NodeT)) hO eH55 rfl
      refine ⟨(hO.blk (.head _)).wr (Nat.le_of_ble_eq_true rfl), ?_⟩
      intro H56 eH56
      replace hO := oz0 (l' := encNode x53) hO eH56 rfl
      replace hO := close_F L0 S43 (pu7 (pu7 (pu7 (pu7 (pu7 (pu7 (pu7 hO)))))))
      refine ⟨fun l Hc => ∃ S71 : FoS, Own Hc [oF z0 L0 S71, cellE 153 b1 (List.flatMap encNode a1)] F ∧ (k185_1 rec47 x49 S71) = some r_, ?_, ?_⟩
      · refine ⟨x53.kind, ((hO.blk (.tail _ (.head _))).rdv rfl), ?_⟩
        refine ⟨fun w81 => ?_, fun w82 => ?_⟩
        · replace h := ifTd w81 h
          obtain ⟨r83, e84, h⟩ := bindS h
          refine c182 z0 L0 S43 (45 : Int) r83 e84 _ _ _ (fr1 hO) (fun H85 hO => ?_)
          replace hO := un1 hO
          replace hO := dr2 (pu1 (pu2 hO))
          exact ⟨r83, hO, h⟩

        · replace h := ifFd w82 h
          refine ⟨fun w86 => ?_, fun w87 => ?_⟩
          · replace h := ifTd w86 h
            refine ⟨x53.b, ((hO.blk (.tail _ (.head _))).rdv rfl), ?_⟩
            refine ⟨fun w88 => ?_, fun w89 => ?_⟩
            · replace h := ifTd w88 h
              refine ⟨x53.op, ((hO.blk (.tail _ (.head _))).rdv rfl), ?_⟩
              obtain ⟨r90, e91, h⟩ := bindS h
              refine c215 z0 L0 S43 x53.op r90 e91 _ _ _ (fr1 hO) (fun H92 hO => ?_)
              replace hO := un1 hO
              obtain rfl := Option.some.inj h
              exact hR _ (dr2 (pu1 (pu2 hO)))

            · replace h := ifFd w89 h
              replace hO := dr2 (pu1 (pu2 hO))
              exact ⟨S43, hO, h⟩


          · replace h := ifFd w87 h
            refine ⟨fun w93 => ?_, fun w94 => ?_⟩
            · replace h := ifTd w93 h
              refine ⟨x53.a, ((hO.blk (.tail _ (.head _))).rdv rfl), ?_⟩
              refine ⟨fun w95 => ?_, fun w96 => ?_⟩
              · replace h := ifTd w95 h
                refine ⟨x53.b, ((hO.blk (.tail _ (.head _))).rdv rfl), ?_⟩
                refine ⟨fun w97 => ?_, fun w98 => ?_⟩
                · replace h := ifTd w97 h
                  obtain ⟨r99, e100, h⟩ := bindS h
                  refine c182 z0 L0 S43 (44 : Int) r99 e100 _ _ _ (fr1 hO) (fun H101 hO => ?_)
                  replace hO := un1 hO
                  obtain rfl := Option.some.inj h
                  exact hR _ (dr2 (pu1 (pu2 hO)))

                · replace h := ifFd w98 h
                  replace hO := dr2 (pu1 (pu2 hO))
                  exact ⟨S43, hO, h⟩


              · replace h := ifFd w96 h
                replace hO := dr2 (pu1 (pu2 hO))
                exact ⟨S43, hO, h⟩


            · replace h := ifFd w94 h
              obtain ⟨r102, e103, h⟩ := bindS h
              refine c182 z0 L0 S43 (40 : Int) r102 e103 _ _ _ (fr1 hO) (fun H104 hO => ?_)
              replace hO := un1 hO
              refine ⟨x53.op, ((hO.blk (.tail _ (.head _))).rdv rfl), ?_⟩
              refine c195 x53.op _ rfl _ _ _ (fr0 hO) (fun H105 hO => ?_)
              replace hO := un0 hO
              refine ⟨(s195 x53.op), rfl, ?_⟩
              obtain ⟨r106, e107, h⟩ := bindS h
              refine c213 n_ z0 L0 r102 (s195 x53.op) r106 e107 _ _ _ (fr1 hO) (fun H108 hO => ?_)
              replace hO := un1 hO
              replace hO := dr2 (pu1 (pu2 hO))
              exact ⟨r106, hO, h⟩




      · clear hO h
        intro H72 u73  hJ
        obtain ⟨S71, hO, h⟩ := hJ
        replace h : (k185_1 rec47 x49 S71) = some r_ := h
        unfold k185_1 at h
        replace hO := open_F (pu0 hO)
        refine ⟨(some ⟨L0.notes, 0, none⟩), 24, 24, ((hO.blk (.head _)).rdv rfl), ?_⟩
        obtain ⟨x74, g75, h⟩ := getS h
        refine ⟨_, _, rfl, g75.1, g75.2.1, rfl, ?_⟩
        refine ⟨x74.brk, ((hO.arr (.tail _ (.tail _ (.tail _ (.tail _ (.tail _ (.head _))))))).rd (i := Int.toNat x49.up) (j := 1) lenNote g75.2.2 (by decide) (zo _ 1) rfl), ?_⟩
        refine ⟨fun w76 => ?_, fun w77 => ?_⟩
        · replace h := ifTb w76 h
          replace hO := close_F L0 S71 (hO)
          obtain ⟨r78, e79, h⟩ := bindS h
          refine c182 z0 L0 S71 (40 : Int) r78 e79 _ _ _ (fr1 hO) (fun H80 hO => ?_)
          replace hO := un1 hO
          subst hrec47
          exact lst_step hm48 ⟨r78, hO, h⟩

        · replace h := ifFb w77 h
          replace hO := close_F L0 S71 (hO)
          subst hrec47
          exact lst_step hm48 ⟨S71, hO, h⟩



    · replace h := ifFd w52 h
      replace hO := close_F L0 S43 (hO)
      obtain rfl := Option.some.inj h
      exact hR _ hO




theorem c143 (n_ : Nat) (z0 : Nat) (L0 : FL) (S0 : FoS) (b1 : Nat) (a1 : List NodeT) (m1 c1 : Nat) (r_ : FoS × List UInt8) (h : s143 n_ S0 a1 m1 = some r_) (F : List Ent) (H : Heap) (R : Value → Heap → Prop)
    (hO : Own H [oF z0 L0 S0, cellE 153 b1 (List.flatMap encNode a1)] F)
    (hR : ∀ (H' : Heap) , Own H' [oF z0 L0 r_.1, cellE 153 b1 (List.flatMap encNode a1)] F → R (str r_.2) H') :
    HCalls Tryz.prog 143 #[Value.pointer (some ⟨z0, 0, none⟩), Value.slice (some ⟨b1, 0, none⟩) m1 c1] H R := by
  refine vc143 z0 (some ⟨b1, 0, none⟩) m1 c1 H R ?_
  unfold s143 at h
  replace hO := open_F (pu0 hO)
  refine ⟨(some ⟨L0.out, 0, none⟩), 288, 288, ((hO.blk (.head _)).rdv rfl), ?_⟩
  refine ⟨(hO.blk (.head _)).wr (Nat.le_of_ble_eq_true rfl), ?_⟩
  intro H21 eH21
  replace hO := os0 (l' := [Value.slice (some ⟨L0.toks, 0, none⟩) 41 41, I S0.nt, I S0.k, I S0.pos, Value.slice (some ⟨L0.arena, 0, none⟩) 24 24, I S0.nn, Value.slice (some ⟨L0.opnd, 0, none⟩) 41 41, I S0.nv, Value.slice (some ⟨L0.ops, 0, none⟩) 41 41, I S0.no, Value.bool S0.have_, Value.bool S0.done, I S0.err, I S0.bad, Value.slice (some ⟨L0.notes, 0, none⟩) 24 24, Value.slice (some ⟨L0.out, 0, none⟩) 288 288, I (288 : Int)]) hO eH21 rfl
  refine ⟨(some ⟨L0.notes, 0, none⟩), 24, 24, ((hO.blk (.head _)).rdv rfl), ?_⟩
  obtain ⟨q22, h⟩ := ckS h
  refine ⟨q22, ?_⟩
  obtain ⟨x23, g24, h⟩ := getS h
  refine ⟨_, _, rfl, g24.1, g24.2.1, rfl, ?_⟩
  refine ⟨((hO.arr (.tail _ (.tail _ (.tail _ (.tail _ (.tail _ (.head _))))))).wr1 lenNote (i := Int.toNat ((m1 : Int) - (1 : Int))) (j := 0) (getLt g24.2.2) (Nat.le_of_ble_eq_true rfl) (zo0 _)), ?_⟩
  intro H25 eH25
  replace hO := oz5 (l' := List.flatMap encNote (List.set S0.notes (Int.toNat ((m1 : Int) - (1 : Int))) (⟨(-1 : Int), false⟩ : NoteT))) hO eH25 (flat_put1 lenNote (i := Int.toNat ((m1 : Int) - (1 : Int))) (x := (⟨(-1 : Int), false⟩ : NoteT)) (getLt g24.2.2) (Nat.zero_add _))
  refine ⟨q22, ?_⟩
  replace hO := close_F L0 ({ S0 with notes := (List.set S0.notes (Int.toNat ((m1 : Int) - (1 : Int))) (⟨(-1 : Int), false⟩ : NoteT)), w := (288 : Int) }) (hO)
  refine ⟨fun l Hc => ∃ m : Nat, ∃ S51 : FoS, Own Hc [oF z0 L0 S51, cellE 153 b1 (List.flatMap encNode a1)] F ∧ (l143_7 n_ a1 m1 m (asI (nth l 0)) S51) = some r_, fun l Hc => Classical.epsilon <| lsp fun m => ∃ S51 : FoS, Own Hc [oF z0 L0 S51, cellE 153 b1 (List.flatMap encNode a1)] F ∧ (l143_7 n_ a1 m1 m (asI (nth l 0)) S51) = some r_, ?_, ?_⟩
  · exact ⟨n_, ({ S0 with notes := (List.set S0.notes (Int.toNat ((m1 : Int) - (1 : Int))) (⟨(-1 : Int), false⟩ : NoteT)), w := (288 : Int) }), hO, h⟩
  · clear hO h
    intro H52 u53 x54 hJ
    obtain ⟨m193, hm56, hJ⟩ := lst_get hJ
    obtain ⟨S51, hO, h⟩ := hJ
    rcases m193 with _ | k192
    · exact absurd h (by simp [l143_7, asI, asB, asC, asS])
    obtain ⟨rec55, hrec55, h⟩ : ∃ f_, f_ = l143_7 n_ a1 m1 k192 ∧ (l143_7_st n_ a1 m1 f_ x54 S51) = some r_ := ⟨_, rfl, h⟩
    unfold l143_7_st at h
    refine ⟨fun w57 => ?_, fun w58 => ?_⟩
    · replace h := ifTd w57 h
      refine ⟨fun l Hc => ∃ S73 : FoS, Own Hc [oF z0 L0 S73, cellE 153 b1 (List.flatMap encNode a1)] F ∧ (k143_2 x54 rec55 S73) = some r_, ?_, ?_⟩
      · obtain ⟨x77, g78, h⟩ := getS h
        refine ⟨_, _, rfl, g78.1, g78.2.1, rfl, ?_⟩
        refine ⟨x77, (hO.arr (.tail _ (.head _))).row (i := Int.toNat x54) lenNode g78.2.2 (Nat.zero_add _), ?_⟩
        intro H79 eH79
        replace hO := own_new (l := encNode (⟨(0 : Int), (0 : Int), (0 : Int), (0 : Int), (0 : Int), (⟨(0 : Int), (0 : Int), false, false⟩ : RefT), (⟨(0 : Int), (0 : Int), false, false⟩ : RefT)⟩ : NodeT)) hO eH79 rfl
        refine ⟨(hO.blk (.head _)).wr (Nat.le_of_ble_eq_true rfl), ?_⟩
        intro H80 eH80
        replace hO := oz0 (l' := encNode x77) hO eH80 rfl
        refine ⟨fun l Hc => ∃ S133 : FoS, Own Hc [cellE 153 H52.size (encNode x77), oF z0 L0 S133, cellE 153 b1 (List.flatMap encNode a1)] F ∧ (k143_6 n_ a1 m1 x54 rec55 x77 S133) = some r_, ?_, ?_⟩
        · replace hO := open_F (pu1 hO)
          refine ⟨(some ⟨L0.notes, 0, none⟩), 24, 24, ((hO.blk (.head _)).rdv rfl), ?_⟩
          obtain ⟨x177, g178, h⟩ := getS h
          refine ⟨_, _, rfl, g178.1, g178.2.1, rfl, ?_⟩
          refine ⟨x177.brk, ((hO.arr (.tail _ (.tail _ (.tail _ (.tail _ (.tail _ (.head _))))))).rd (i := Int.toNat x54) (j := 1) lenNote g178.2.2 (by decide) (zo _ 1) rfl), ?_⟩
          refine ⟨fun w180 => ?_, fun w179 => ?_⟩
          · replace h := ifFb w180 h
            refine ⟨x77.kind, ((hO.blk (.tail _ (.tail _ (.tail _ (.tail _ (.tail _ (.tail _ (.tail _ (.head _))))))))).rdv rfl), ?_⟩
            refine ⟨fun w181 => ?_, fun w182 => ?_⟩
            · replace h := ifTd w181 h
              replace hO := close_F L0 S51 (hO)
              obtain ⟨r183, e184, h⟩ := bindS h
              refine c182 z0 L0 S51 (41 : Int) r183 e184 _ _ _ (fr1 hO) (fun H185 hO => ?_)
              replace hO := un1 hO
              replace hO := pu2 (pu1 (pu2 hO))
              exact ⟨r183, hO, h⟩

            · replace h := ifFd w182 h
              replace hO := close_F L0 S51 (hO)
              replace hO := pu2 (pu1 (pu2 hO))
              exact ⟨S51, hO, h⟩


          · replace h := ifTb w179 h
            replace hO := close_F L0 S51 (hO)
            obtain ⟨r186, e187, h⟩ := bindS h
            refine c182 z0 L0 S51 (41 : Int) r186 e187 _ _ _ (fr1 hO) (fun H188 hO => ?_)
            replace hO := un1 hO
            replace hO := pu2 (pu1 (pu2 hO))
            exact ⟨r186, hO, h⟩


        · clear hO h
          intro H134 u135  hJ
          obtain ⟨S133, hO, h⟩ := hJ
          replace h : (k143_6 n_ a1 m1 x54 rec55 x77 S133) = some r_ := h
          unfold k143_6 at h
          refine ⟨x77.kind, ((hO.blk (.head _)).rdv rfl), ?_⟩
          refine ⟨fun w136 => ?_, fun w137 => ?_⟩
          · replace h := ifTd w136 h
            refine ⟨x77.a, ((hO.blk (.head _)).rdv rfl), ?_⟩
            obtain ⟨r138, e139, h⟩ := bindS h
            refine c183 z0 L0 S133 b1 a1 m1 c1 x77.a x54 (4 : Int) r138 e139 _ _ _ (fr2 (pu2 (pu2 hO))) (fun H140 hO => ?_)
            replace hO := un2 hO
            replace hO := dr2 (hO)
            exact ⟨r138, hO, h⟩

          · replace h := ifFd w137 h
            refine ⟨fun w141 => ?_, fun w142 => ?_⟩
            · replace h := ifTd w141 h
              refine ⟨x77.op, ((hO.blk (.head _)).rdv rfl), ?_⟩
              refine c169 x77.op _ rfl _ _ _ (fr0 hO) (fun H143 hO => ?_)
              replace hO := un0 hO
              refine ⟨(s169 x77.op), rfl, ?_⟩
              refine ⟨x77.b, ((hO.blk (.head _)).rdv rfl), ?_⟩
              obtain ⟨q144, h⟩ := ckS h
              refine ⟨_, .inl ⟨q144, rfl⟩, ?_⟩
              obtain ⟨r145, e146, h⟩ := bindS h
              refine c183 z0 L0 S133 b1 a1 m1 c1 x77.b x54 ((s169 x77.op) + (1 : Int)) r145 e146 _ _ _ (fr2 (pu2 (pu2 hO))) (fun H147 hO => ?_)
              replace hO := un2 hO
              refine ⟨fun l Hc => Own Hc [oF z0 L0 r145, cellE 153 b1 (List.flatMap encNode a1), cellE 153 H52.size (encNode x77)] F ∧ (k143_5 a1 m1 x54 rec55 x77 r145 (asI (nth l 0))) = some r_, ?_, ?_⟩
              · refine ⟨fun w154 => ?_, fun w155 => ?_⟩
                · replace h := ifTd w154 h
                  exact ⟨hO, h⟩

                · replace h := ifFd w155 h
                  exact ⟨hO, h⟩


              · clear hO h
                intro H148 u149 x150 hJ
                obtain ⟨hO, h⟩ := hJ
                replace h : (k143_5 a1 m1 x54 rec55 x77 r145 x150) = some r_ := h
                unfold k143_5 at h
                refine ⟨x77.a, ((hO.blk (.tail _ (.tail _ (.head _)))).rdv rfl), ?_⟩
                obtain ⟨r151, e152, h⟩ := bindS h
                refine c183 z0 L0 r145 b1 a1 m1 c1 x77.a x54 x150 r151 e152 _ _ _ (fr2 hO) (fun H153 hO => ?_)
                replace hO := un2 hO
                replace hO := dr2 (hO)
                exact ⟨r151, hO, h⟩


            · replace h := ifFd w142 h
              refine ⟨fun w156 => ?_, fun w157 => ?_⟩
              · replace h := ifTd w156 h
                refine ⟨x77.a, ((hO.blk (.head _)).rdv rfl), ?_⟩
                obtain ⟨r158, e159, h⟩ := bindS h
                refine c183 z0 L0 S133 b1 a1 m1 c1 x77.a x54 (1 : Int) r158 e159 _ _ _ (fr2 (pu2 (pu2 hO))) (fun H160 hO => ?_)
                replace hO := un2 hO
                replace hO := dr2 (hO)
                exact ⟨r158, hO, h⟩

              · replace h := ifFd w157 h
                refine ⟨fun w161 => ?_, fun w162 => ?_⟩
                · replace h := ifTd w161 h
                  refine ⟨x77.a, ((hO.blk (.head _)).rdv rfl), ?_⟩
                  obtain ⟨r163, e164, h⟩ := bindS h
                  refine c183 z0 L0 S133 b1 a1 m1 c1 x77.a x54 (1 : Int) r163 e164 _ _ _ (fr2 (pu2 (pu2 hO))) (fun H165 hO => ?_)
                  replace hO := un2 hO
                  refine ⟨x77.b, ((hO.blk (.tail _ (.tail _ (.head _)))).rdv rfl), ?_⟩
                  refine ⟨fun w166 => ?_, fun w167 => ?_⟩
                  · replace h := ifTd w166 h
                    refine ⟨x77.b, ((hO.blk (.tail _ (.tail _ (.head _)))).rdv rfl), ?_⟩
                    obtain ⟨r168, e169, h⟩ := bindS h
                    refine c183 z0 L0 r163 b1 a1 m1 c1 x77.b x54 (1 : Int) r168 e169 _ _ _ (fr2 hO) (fun H170 hO => ?_)
                    replace hO := un2 hO
                    replace hO := dr2 (hO)
                    exact ⟨r168, hO, h⟩

                  · replace h := ifFd w167 h
                    replace hO := dr2 (hO)
                    exact ⟨r163, hO, h⟩


                · replace h := ifFd w162 h
                  refine ⟨x77, (hO.blk (.head _)).rowT rfl, ?_⟩
                  obtain ⟨r171, e172, h⟩ := bindS h
                  refine c184 n_ z0 L0 S133 x77 r171 e172 _ _ _ (fr1 (pu1 hO)) (fun H173 hO => ?_)
                  replace hO := un1 hO
                  obtain ⟨r174, e175, h⟩ := bindS h
                  refine c185 n_ z0 L0 r171 b1 a1 m1 c1 x54 r174 e175 _ _ _ (fr2 (pu1 (pu2 hO))) (fun H176 hO => ?_)
                  replace hO := un2 hO
                  replace hO := dr2 (hO)
                  exact ⟨r174, hO, h⟩






      · clear hO h
        intro H74 u75  hJ
        obtain ⟨S73, hO, h⟩ := hJ
        replace h : (k143_2 x54 rec55 S73) = some r_ := h
        unfold k143_2 at h
        obtain ⟨q76, h⟩ := ckS h
        refine ⟨q76, ?_⟩
        subst hrec55
        exact lst_step hm56 ⟨S73, hO, h⟩


    · replace h := ifFd w58 h
      replace hO := open_F (pu0 hO)
      refine ⟨(some ⟨L0.out, 0, none⟩), 288, 288, ((hO.blk (.head _)).rdv rfl), ?_⟩
      refine ⟨S51.w, ((hO.blk (.head _)).rdv rfl), ?_⟩
      obtain ⟨q189, h⟩ := ckS h
      refine ⟨_, _, rfl, q189.1, q189.2.1, q189.2.2, ?_⟩
      obtain ⟨s190, g191, h⟩ := bindS h
      refine ⟨rfl, _, _, rfl, s190, toS_len g191, toS_row g191 (hO.arr (.tail _ (.tail _ (.tail _ (.tail _ (.tail _ (.tail _ (.head _)))))))) (by rw [Nat.zero_add, Nat.mul_one]), ?_⟩
      replace hO := close_F L0 S51 (hO)
      obtain rfl := Option.some.inj h
      exact hR _ hO




end Go.Proofs.Qxb6500272aGreat
