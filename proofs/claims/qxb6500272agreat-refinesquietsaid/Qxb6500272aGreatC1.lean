import Derived.Test.Qxb6500272aGreatC0
/- The contracts. Printed by tools/mkall.py. -/
namespace Go.Proofs.Qxb6500272aGreat
open Go
set_option linter.unusedVariables false
set_option linter.unusedSimpArgs false
set_option maxHeartbeats 4000000

theorem c87 (z0 : Nat) (L0 : KML) (S0 : KMS) (z1 : Int) (r_ : List UInt8) (h : s87 S0 z1 = some r_) (F : List Ent) (H : Heap) (R : Value → Heap → Prop)
    (hO : Own H [oKM z0 L0 S0] F)
    (hR : ∀ (H' : Heap) , Own H' [oKM z0 L0 S0] F → R (str r_) H') :
    HCalls Tryz.prog 87 #[Value.pointer (some ⟨z0, 0, none⟩), I z1] H R := by
  refine vc87 z0 z1 H R ?_
  unfold s87 at h
  refine ⟨fun w22 => ?_, fun w21 => ?_⟩
  · replace h := ifFd w22 h
    refine ⟨fun w23 => ?_, fun w24 => ?_⟩
    · replace h := ifTd w23 h
      obtain rfl := Option.some.inj h
      exact hR _ hO

    · replace h := ifFd w24 h
      replace hO := open_KM (pu0 hO)
      refine ⟨(some ⟨L0.raw, 0, none⟩), 24, 24, ((hO.blk (.head _)).rdv rfl), ?_⟩
      obtain ⟨x25, g26, h⟩ := getS h
      refine ⟨_, _, rfl, g26.1, g26.2.1, rfl, ?_⟩
      refine ⟨x25, ((hO.arr (.tail _ (.tail _ (.head _)))).rd (i := Int.toNat z1) (j := 0) lenStr g26.2.2 (by decide) (zo0 _) rfl), ?_⟩
      replace hO := close_KM L0 S0 (hO)
      obtain rfl := Option.some.inj h
      exact hR _ hO


  · replace h := ifTd w21 h
    obtain rfl := Option.some.inj h
    exact hR _ hO



theorem c65 (z0 : Nat) (L0 : EML) (S0 : EMS) (z1 : Int) (r_ : List UInt8) (h : s65 S0 z1 = some r_) (F : List Ent) (H : Heap) (R : Value → Heap → Prop)
    (hO : Own H [oEM z0 L0 S0] F)
    (hR : ∀ (H' : Heap) , Own H' [oEM z0 L0 S0] F → R (str r_) H') :
    HCalls Tryz.prog 65 #[Value.pointer (some ⟨z0, 0, none⟩), I z1] H R := by
  refine vc65 z0 z1 H R ?_
  unfold s65 at h
  replace hO := open_EM (pu0 hO)
  refine ⟨L0.k, ((hO.blk (.head _)).rdv rfl), ?_⟩
  obtain ⟨r21, e22, h⟩ := bindS h
  refine c87 L0.k L0.kl S0.k z1 r21 e22 _ _ _ (fr1 (pu2 hO)) (fun H23 hO => ?_)
  replace hO := un1 hO
  refine ⟨r21, rfl, ?_⟩
  replace hO := close_EM L0 S0 (pu2 (pu2 (pu0 hO)))
  obtain rfl := Option.some.inj h
  exact hR _ hO


theorem c34 (z0 : Nat) (L0 : BML) (S0 : BMS) (z1 : Int) (r_ : List UInt8) (h : s34 S0 z1 = some r_) (F : List Ent) (H : Heap) (R : Value → Heap → Prop)
    (hO : Own H [oBM z0 L0 S0] F)
    (hR : ∀ (H' : Heap) , Own H' [oBM z0 L0 S0] F → R (str r_) H') :
    HCalls Tryz.prog 34 #[Value.pointer (some ⟨z0, 0, none⟩), I z1] H R := by
  refine vc34 z0 z1 H R ?_
  unfold s34 at h
  replace hO := open_BM (pu0 hO)
  refine ⟨L0.e, ((hO.blk (.head _)).rdv rfl), ?_⟩
  obtain ⟨r21, e22, h⟩ := bindS h
  refine c65 L0.e L0.el S0.e z1 r21 e22 _ _ _ (fr1 (pu1 hO)) (fun H23 hO => ?_)
  replace hO := un1 hO
  refine ⟨r21, rfl, ?_⟩
  replace hO := close_BM L0 S0 (pu3 (pu2 (pu3 (pu3 hO))))
  obtain rfl := Option.some.inj h
  exact hR _ hO


theorem c19 (z0 : Nat) (L0 : BL) (S0 : BS) (z1 : Nat) (L1 : BML) (S1 : BMS) (z2 : Int) (r_ : Bool) (h : s19 S0 S1 z2 = some r_) (F : List Ent) (H : Heap) (R : Value → Heap → Prop)
    (hO : Own H [oB z0 L0 S0, oBM z1 L1 S1] F)
    (hR : ∀ (H' : Heap) , Own H' [oB z0 L0 S0, oBM z1 L1 S1] F → R (.bool r_) H') :
    HCalls Tryz.prog 19 #[Value.pointer (some ⟨z0, 0, none⟩), Value.pointer (some ⟨z1, 0, none⟩), I z2] H R := by
  refine vc19 z0 z1 z2 H R ?_
  unfold s19 at h
  obtain ⟨r21, e22, h⟩ := bindS h
  refine c33 z0 L0 S0 z2 r21 e22 _ _ _ (fr1 hO) (fun H23 hO => ?_)
  replace hO := un1 hO
  refine ⟨r21, rfl, ?_⟩
  obtain ⟨r24, e25, h⟩ := bindS h
  refine c34 z1 L1 S1 z2 r24 e25 _ _ _ (fr1 (pu1 hO)) (fun H26 hO => ?_)
  replace hO := un1 hO
  refine ⟨r24, rfl, ?_⟩
  obtain rfl := Option.some.inj h
  exact hR _ (pu1 (pu0 hO))


theorem c88 (z0 : Nat) (L0 : KL) (S0 : KS) (z1 : Int) (r_ : ValT) (h : s88 S0 z1 = some r_) (F : List Ent) (H : Heap) (R : Value → Heap → Prop)
    (hO : Own H [oK z0 L0 S0] F)
    (hR : ∀ (H' : Heap) , Own H' [oK z0 L0 S0] F → R (.agg ⟨encVal r_⟩) H') :
    HCalls Tryz.prog 88 #[Value.pointer (some ⟨z0, 0, none⟩), I z1] H R := by
  refine vc88 z0 z1 H R ?_
  unfold s88 at h
  intro H21 eH21
  replace hO := own_new (l := encVal (⟨(0 : Int), (0 : Int), ([] : List UInt8)⟩ : ValT)) hO eH21 rfl
  refine ⟨fun w23 => ?_, fun w22 => ?_⟩
  · replace h := ifFd w23 h
    refine ⟨fun w24 => ?_, fun w25 => ?_⟩
    · replace h := ifTd w24 h
      refine ⟨(hO.blk (.head _)).wr (Nat.le_of_ble_eq_true rfl), ?_⟩
      intro H26 eH26
      replace hO := oz0 (l' := encVal (⟨(0 : Int), (0 : Int), ([] : List UInt8)⟩ : ValT)) hO eH26 rfl
      refine ⟨(⟨(0 : Int), (0 : Int), ([] : List UInt8)⟩ : ValT), (hO.blk (.head _)).rowT rfl, ?_⟩
      obtain rfl := Option.some.inj h
      exact hR _ (dr1 (pu1 hO))

    · replace h := ifFd w25 h
      replace hO := open_K (pu1 hO)
      refine ⟨(some ⟨L0.shown, 0, none⟩), 24, 24, ((hO.blk (.head _)).rdv rfl), ?_⟩
      obtain ⟨x27, g28, h⟩ := getS h
      refine ⟨_, _, rfl, g28.1, g28.2.1, rfl, ?_⟩
      refine ⟨x27, (hO.arr (.tail _ (.tail _ (.tail _ (.tail _ (.head _)))))).row (i := Int.toNat z1) lenVal g28.2.2 (Nat.zero_add _), ?_⟩
      refine ⟨(hO.blk (.tail _ (.tail _ (.tail _ (.tail _ (.tail _ (.head _))))))).wr (Nat.le_of_ble_eq_true rfl), ?_⟩
      intro H29 eH29
      replace hO := oz5 (l' := encVal x27) hO eH29 rfl
      refine ⟨x27, (hO.blk (.tail _ (.tail _ (.tail _ (.tail _ (.tail _ (.head _))))))).rowT rfl, ?_⟩
      replace hO := close_K L0 S0 (hO)
      obtain rfl := Option.some.inj h
      exact hR _ (dr1 (hO))


  · replace h := ifTd w22 h
    refine ⟨(hO.blk (.head _)).wr (Nat.le_of_ble_eq_true rfl), ?_⟩
    intro H30 eH30
    replace hO := oz0 (l' := encVal (⟨(0 : Int), (0 : Int), ([] : List UInt8)⟩ : ValT)) hO eH30 rfl
    refine ⟨(⟨(0 : Int), (0 : Int), ([] : List UInt8)⟩ : ValT), (hO.blk (.head _)).rowT rfl, ?_⟩
    obtain rfl := Option.some.inj h
    exact hR _ (dr1 (pu1 hO))



theorem c66 (z0 : Nat) (L0 : EL) (S0 : ES) (z1 : Int) (r_ : ValT) (h : s66 S0 z1 = some r_) (F : List Ent) (H : Heap) (R : Value → Heap → Prop)
    (hO : Own H [oE z0 L0 S0] F)
    (hR : ∀ (H' : Heap) , Own H' [oE z0 L0 S0] F → R (.agg ⟨encVal r_⟩) H') :
    HCalls Tryz.prog 66 #[Value.pointer (some ⟨z0, 0, none⟩), I z1] H R := by
  refine vc66 z0 z1 H R ?_
  unfold s66 at h
  intro H21 eH21
  replace hO := own_new (l := encVal (⟨(0 : Int), (0 : Int), ([] : List UInt8)⟩ : ValT)) hO eH21 rfl
  replace hO := open_E (pu1 hO)
  refine ⟨L0.k, ((hO.blk (.head _)).rdv rfl), ?_⟩
  obtain ⟨r22, e23, h⟩ := bindS h
  refine c88 L0.k L0.kl S0.k z1 r22 e23 _ _ _ (fr1 (pu2 hO)) (fun H24 hO => ?_)
  replace hO := un1 hO
  refine ⟨r22, rfl, ?_⟩
  refine ⟨(hO.blk (.tail _ (.tail _ (.tail _ (.tail _ (.head _)))))).wr (Nat.le_of_ble_eq_true rfl), ?_⟩
  intro H25 eH25
  replace hO := oz4 (l' := encVal r22) hO eH25 rfl
  refine ⟨r22, (hO.blk (.tail _ (.tail _ (.tail _ (.tail _ (.head _)))))).rowT rfl, ?_⟩
  replace hO := close_E L0 S0 (pu3 (pu3 (pu1 (pu3 hO))))
  obtain rfl := Option.some.inj h
  exact hR _ (dr1 (hO))


theorem c35 (z0 : Nat) (L0 : BL) (S0 : BS) (z1 : Int) (r_ : ValT) (h : s35 S0 z1 = some r_) (F : List Ent) (H : Heap) (R : Value → Heap → Prop)
    (hO : Own H [oB z0 L0 S0] F)
    (hR : ∀ (H' : Heap) , Own H' [oB z0 L0 S0] F → R (.agg ⟨encVal r_⟩) H') :
    HCalls Tryz.prog 35 #[Value.pointer (some ⟨z0, 0, none⟩), I z1] H R := by
  refine vc35 z0 z1 H R ?_
  unfold s35 at h
  intro H21 eH21
  replace hO := own_new (l := encVal (⟨(0 : Int), (0 : Int), ([] : List UInt8)⟩ : ValT)) hO eH21 rfl
  replace hO := open_B (pu1 hO)
  refine ⟨L0.e, ((hO.blk (.head _)).rdv rfl), ?_⟩
  obtain ⟨r22, e23, h⟩ := bindS h
  refine c66 L0.e L0.el S0.e z1 r22 e23 _ _ _ (fr1 (pu1 hO)) (fun H24 hO => ?_)
  replace hO := un1 hO
  refine ⟨r22, rfl, ?_⟩
  refine ⟨(hO.blk (.tail _ (.tail _ (.tail _ (.tail _ (.tail _ (.tail _ (.head _)))))))).wr (Nat.le_of_ble_eq_true rfl), ?_⟩
  intro H25 eH25
  replace hO := oz6 (l' := encVal r22) hO eH25 rfl
  refine ⟨r22, (hO.blk (.tail _ (.tail _ (.tail _ (.tail _ (.tail _ (.tail _ (.head _)))))))).rowT rfl, ?_⟩
  replace hO := close_B L0 S0 (pu5 (pu4 (pu5 (pu5 (pu5 (pu5 hO))))))
  obtain rfl := Option.some.inj h
  exact hR _ (dr1 (hO))


theorem c89 (z0 : Nat) (L0 : KML) (S0 : KMS) (z1 : Int) (r_ : ValT) (h : s89 S0 z1 = some r_) (F : List Ent) (H : Heap) (R : Value → Heap → Prop)
    (hO : Own H [oKM z0 L0 S0] F)
    (hR : ∀ (H' : Heap) , Own H' [oKM z0 L0 S0] F → R (.agg ⟨encVal r_⟩) H') :
    HCalls Tryz.prog 89 #[Value.pointer (some ⟨z0, 0, none⟩), I z1] H R := by
  refine vc89 z0 z1 H R ?_
  unfold s89 at h
  intro H21 eH21
  replace hO := own_new (l := encVal (⟨(0 : Int), (0 : Int), ([] : List UInt8)⟩ : ValT)) hO eH21 rfl
  refine ⟨fun w23 => ?_, fun w22 => ?_⟩
  · replace h := ifFd w23 h
    refine ⟨fun w24 => ?_, fun w25 => ?_⟩
    · replace h := ifTd w24 h
      refine ⟨(hO.blk (.head _)).wr (Nat.le_of_ble_eq_true rfl), ?_⟩
      intro H26 eH26
      replace hO := oz0 (l' := encVal (⟨(0 : Int), (0 : Int), ([] : List UInt8)⟩ : ValT)) hO eH26 rfl
      refine ⟨(⟨(0 : Int), (0 : Int), ([] : List UInt8)⟩ : ValT), (hO.blk (.head _)).rowT rfl, ?_⟩
      obtain rfl := Option.some.inj h
      exact hR _ (dr1 (pu1 hO))

    · replace h := ifFd w25 h
      replace hO := open_KM (pu1 hO)
      refine ⟨(some ⟨L0.shown, 0, none⟩), 24, 24, ((hO.blk (.head _)).rdv rfl), ?_⟩
      obtain ⟨x27, g28, h⟩ := getS h
      refine ⟨_, _, rfl, g28.1, g28.2.1, rfl, ?_⟩
      refine ⟨x27, (hO.arr (.tail _ (.tail _ (.tail _ (.head _))))).row (i := Int.toNat z1) lenVal g28.2.2 (Nat.zero_add _), ?_⟩
      refine ⟨(hO.blk (.tail _ (.tail _ (.tail _ (.tail _ (.head _)))))).wr (Nat.le_of_ble_eq_true rfl), ?_⟩
      intro H29 eH29
      replace hO := oz4 (l' := encVal x27) hO eH29 rfl
      refine ⟨x27, (hO.blk (.tail _ (.tail _ (.tail _ (.tail _ (.head _)))))).rowT rfl, ?_⟩
      replace hO := close_KM L0 S0 (hO)
      obtain rfl := Option.some.inj h
      exact hR _ (dr1 (hO))


  · replace h := ifTd w22 h
    refine ⟨(hO.blk (.head _)).wr (Nat.le_of_ble_eq_true rfl), ?_⟩
    intro H30 eH30
    replace hO := oz0 (l' := encVal (⟨(0 : Int), (0 : Int), ([] : List UInt8)⟩ : ValT)) hO eH30 rfl
    refine ⟨(⟨(0 : Int), (0 : Int), ([] : List UInt8)⟩ : ValT), (hO.blk (.head _)).rowT rfl, ?_⟩
    obtain rfl := Option.some.inj h
    exact hR _ (dr1 (pu1 hO))



theorem c67 (z0 : Nat) (L0 : EML) (S0 : EMS) (z1 : Int) (r_ : ValT) (h : s67 S0 z1 = some r_) (F : List Ent) (H : Heap) (R : Value → Heap → Prop)
    (hO : Own H [oEM z0 L0 S0] F)
    (hR : ∀ (H' : Heap) , Own H' [oEM z0 L0 S0] F → R (.agg ⟨encVal r_⟩) H') :
    HCalls Tryz.prog 67 #[Value.pointer (some ⟨z0, 0, none⟩), I z1] H R := by
  refine vc67 z0 z1 H R ?_
  unfold s67 at h
  intro H21 eH21
  replace hO := own_new (l := encVal (⟨(0 : Int), (0 : Int), ([] : List UInt8)⟩ : ValT)) hO eH21 rfl
  replace hO := open_EM (pu1 hO)
  refine ⟨L0.k, ((hO.blk (.head _)).rdv rfl), ?_⟩
  obtain ⟨r22, e23, h⟩ := bindS h
  refine c89 L0.k L0.kl S0.k z1 r22 e23 _ _ _ (fr1 (pu2 hO)) (fun H24 hO => ?_)
  replace hO := un1 hO
  refine ⟨r22, rfl, ?_⟩
  refine ⟨(hO.blk (.tail _ (.tail _ (.tail _ (.head _))))).wr (Nat.le_of_ble_eq_true rfl), ?_⟩
  intro H25 eH25
  replace hO := oz3 (l' := encVal r22) hO eH25 rfl
  refine ⟨r22, (hO.blk (.tail _ (.tail _ (.tail _ (.head _))))).rowT rfl, ?_⟩
  replace hO := close_EM L0 S0 (pu2 (pu2 (pu0 hO)))
  obtain rfl := Option.some.inj h
  exact hR _ (dr1 (hO))


theorem c36 (z0 : Nat) (L0 : BML) (S0 : BMS) (z1 : Int) (r_ : ValT) (h : s36 S0 z1 = some r_) (F : List Ent) (H : Heap) (R : Value → Heap → Prop)
    (hO : Own H [oBM z0 L0 S0] F)
    (hR : ∀ (H' : Heap) , Own H' [oBM z0 L0 S0] F → R (.agg ⟨encVal r_⟩) H') :
    HCalls Tryz.prog 36 #[Value.pointer (some ⟨z0, 0, none⟩), I z1] H R := by
  refine vc36 z0 z1 H R ?_
  unfold s36 at h
  intro H21 eH21
  replace hO := own_new (l := encVal (⟨(0 : Int), (0 : Int), ([] : List UInt8)⟩ : ValT)) hO eH21 rfl
  replace hO := open_BM (pu1 hO)
  refine ⟨L0.e, ((hO.blk (.head _)).rdv rfl), ?_⟩
  obtain ⟨r22, e23, h⟩ := bindS h
  refine c67 L0.e L0.el S0.e z1 r22 e23 _ _ _ (fr1 (pu1 hO)) (fun H24 hO => ?_)
  replace hO := un1 hO
  refine ⟨r22, rfl, ?_⟩
  refine ⟨(hO.blk (.tail _ (.tail _ (.tail _ (.tail _ (.head _)))))).wr (Nat.le_of_ble_eq_true rfl), ?_⟩
  intro H25 eH25
  replace hO := oz4 (l' := encVal r22) hO eH25 rfl
  refine ⟨r22, (hO.blk (.tail _ (.tail _ (.tail _ (.tail _ (.head _)))))).rowT rfl, ?_⟩
  replace hO := close_BM L0 S0 (pu3 (pu2 (pu3 (pu3 hO))))
  obtain rfl := Option.some.inj h
  exact hR _ (dr1 (hO))


theorem c20 (z0 : Nat) (L0 : BL) (S0 : BS) (z1 : Nat) (L1 : BML) (S1 : BMS) (z2 : Int) (r_ : Bool) (h : s20 S0 S1 z2 = some r_) (F : List Ent) (H : Heap) (R : Value → Heap → Prop)
    (hO : Own H [oB z0 L0 S0, oBM z1 L1 S1] F)
    (hR : ∀ (H' : Heap) , Own H' [oB z0 L0 S0, oBM z1 L1 S1] F → R (.bool r_) H') :
    HCalls Tryz.prog 20 #[Value.pointer (some ⟨z0, 0, none⟩), Value.pointer (some ⟨z1, 0, none⟩), I z2] H R := by
  refine vc20 z0 z1 z2 H R ?_
  unfold s20 at h
  obtain ⟨r21, e22, h⟩ := bindS h
  refine c35 z0 L0 S0 z2 r21 e22 _ _ _ (fr1 hO) (fun H23 hO => ?_)
  replace hO := un1 hO
  refine ⟨r21, rfl, ?_⟩
  intro H24 eH24
  replace hO := own_new (l := encVal (⟨(0 : Int), (0 : Int), ([] : List UInt8)⟩ : ValT)) hO eH24 rfl
  refine ⟨(hO.blk (.head _)).wr (Nat.le_of_ble_eq_true rfl), ?_⟩
  intro H25 eH25
  replace hO := oz0 (l' := encVal r21) hO eH25 rfl
  obtain ⟨r26, e27, h⟩ := bindS h
  refine c36 z1 L1 S1 z2 r26 e27 _ _ _ (fr1 (pu2 hO)) (fun H28 hO => ?_)
  replace hO := un1 hO
  refine ⟨r26, rfl, ?_⟩
  intro H29 eH29
  replace hO := own_new (l := encVal (⟨(0 : Int), (0 : Int), ([] : List UInt8)⟩ : ValT)) hO eH29 rfl
  refine ⟨(hO.blk (.head _)).wr (Nat.le_of_ble_eq_true rfl), ?_⟩
  intro H30 eH30
  replace hO := oz0 (l' := encVal r26) hO eH30 rfl
  refine ⟨r21, (hO.blk (.tail _ (.tail _ (.head _)))).rowT rfl, ?_⟩
  refine ⟨r26, (hO.blk (.head _)).rowT rfl, ?_⟩
  obtain rfl := Option.some.inj h
  exact hR _ (dr2 (dr2 (pu3 (pu1 hO))))


theorem c37 (z0 : Nat) (L0 : BL) (S0 : BS) (r_ : Int) (h : s37 S0 = r_) (F : List Ent) (H : Heap) (R : Value → Heap → Prop)
    (hO : Own H [oB z0 L0 S0] F)
    (hR : ∀ (H' : Heap) , Own H' [oB z0 L0 S0] F → R (I r_) H') :
    HCalls Tryz.prog 37 #[Value.pointer (some ⟨z0, 0, none⟩)] H R := by
  refine vc37 z0 H R ?_
  unfold s37 at h
  replace hO := open_B (pu0 hO)
  refine ⟨S0.undos, ((hO.blk (.head _)).rdv rfl), ?_⟩
  replace hO := close_B L0 S0 (hO)
  subst h
  exact hR _ hO


theorem c38 (z0 : Nat) (L0 : BML) (S0 : BMS) (r_ : Int) (h : s38 S0 = r_) (F : List Ent) (H : Heap) (R : Value → Heap → Prop)
    (hO : Own H [oBM z0 L0 S0] F)
    (hR : ∀ (H' : Heap) , Own H' [oBM z0 L0 S0] F → R (I r_) H') :
    HCalls Tryz.prog 38 #[Value.pointer (some ⟨z0, 0, none⟩)] H R := by
  refine vc38 z0 H R ?_
  unfold s38 at h
  replace hO := open_BM (pu0 hO)
  obtain ⟨a21, k23, hv24⟩ := Gsl_val (pu2 hO)
  refine ⟨a21, S0.past.length, k23, ((hO.blk (.head _)).rdv (by rw [← hv24]; rfl)), ?_⟩
  replace hO := close_BM L0 S0 (hO)
  subst h
  exact hR _ hO


theorem c21 (z0 : Nat) (L0 : BL) (S0 : BS) (z1 : Nat) (L1 : BML) (S1 : BMS) (z2 : Nat) (L2 : DL) (S2 : DS) (r_ : Bool) (h : s21 S0 S1 S2 = r_) (F : List Ent) (H : Heap) (R : Value → Heap → Prop)
    (hO : Own H [oB z0 L0 S0, oBM z1 L1 S1, oD z2 L2 S2] F)
    (hR : ∀ (H' : Heap) , Own H' [oB z0 L0 S0, oBM z1 L1 S1, oD z2 L2 S2] F → R (.bool r_) H') :
    HCalls Tryz.prog 21 #[Value.pointer (some ⟨z0, 0, none⟩), Value.pointer (some ⟨z1, 0, none⟩), Value.pointer (some ⟨z2, 0, none⟩)] H R := by
  refine vc21 z0 z1 z2 H R ?_
  unfold s21 at h
  refine c37 z0 L0 S0 _ rfl _ _ _ (fr1 hO) (fun H21 hO => ?_)
  replace hO := un1 hO
  refine ⟨(s37 S0), rfl, ?_⟩
  refine c38 z1 L1 S1 _ rfl _ _ _ (fr1 (pu1 hO)) (fun H22 hO => ?_)
  replace hO := un1 hO
  refine ⟨(s38 S1), rfl, ?_⟩
  refine ⟨fun w23 => ?_, fun w24 => ?_⟩
  · replace h := ifTd w23 h
    replace hO := open_D (pu2 hO)
    obtain ⟨a25, k27, hv28⟩ := Gsl_val (pu1 hO)
    refine ⟨a25, S2.past.length, k27, ((hO.blk (.head _)).rdv (by rw [← hv28]; rfl)), ?_⟩
    replace hO := close_D L2 S2 (hO)
    subst h
    exact hR _ (pu2 (pu1 (pu0 hO)))

  · replace h := ifFd w24 h
    subst h
    exact hR _ (pu2 (pu1 (pu2 hO)))



theorem c39 (z0 : Nat) (L0 : BL) (S0 : BS) (r_ : Int) (h : s39 S0 = r_) (F : List Ent) (H : Heap) (R : Value → Heap → Prop)
    (hO : Own H [oB z0 L0 S0] F)
    (hR : ∀ (H' : Heap) , Own H' [oB z0 L0 S0] F → R (I r_) H') :
    HCalls Tryz.prog 39 #[Value.pointer (some ⟨z0, 0, none⟩)] H R := by
  refine vc39 z0 H R ?_
  unfold s39 at h
  replace hO := open_B (pu0 hO)
  refine ⟨S0.redos, ((hO.blk (.head _)).rdv rfl), ?_⟩
  replace hO := close_B L0 S0 (hO)
  subst h
  exact hR _ hO


theorem c40 (z0 : Nat) (L0 : BML) (S0 : BMS) (r_ : Int) (h : s40 S0 = r_) (F : List Ent) (H : Heap) (R : Value → Heap → Prop)
    (hO : Own H [oBM z0 L0 S0] F)
    (hR : ∀ (H' : Heap) , Own H' [oBM z0 L0 S0] F → R (I r_) H') :
    HCalls Tryz.prog 40 #[Value.pointer (some ⟨z0, 0, none⟩)] H R := by
  refine vc40 z0 H R ?_
  unfold s40 at h
  replace hO := open_BM (pu0 hO)
  obtain ⟨a21, k23, hv24⟩ := Gsl_val (pu3 hO)
  refine ⟨a21, S0.next.length, k23, ((hO.blk (.head _)).rdv (by rw [← hv24]; rfl)), ?_⟩
  replace hO := close_BM L0 S0 (hO)
  subst h
  exact hR _ hO


theorem c22 (z0 : Nat) (L0 : BL) (S0 : BS) (z1 : Nat) (L1 : BML) (S1 : BMS) (z2 : Nat) (L2 : DL) (S2 : DS) (r_ : Bool) (h : s22 S0 S1 S2 = r_) (F : List Ent) (H : Heap) (R : Value → Heap → Prop)
    (hO : Own H [oB z0 L0 S0, oBM z1 L1 S1, oD z2 L2 S2] F)
    (hR : ∀ (H' : Heap) , Own H' [oB z0 L0 S0, oBM z1 L1 S1, oD z2 L2 S2] F → R (.bool r_) H') :
    HCalls Tryz.prog 22 #[Value.pointer (some ⟨z0, 0, none⟩), Value.pointer (some ⟨z1, 0, none⟩), Value.pointer (some ⟨z2, 0, none⟩)] H R := by
  refine vc22 z0 z1 z2 H R ?_
  unfold s22 at h
  refine c39 z0 L0 S0 _ rfl _ _ _ (fr1 hO) (fun H21 hO => ?_)
  replace hO := un1 hO
  refine ⟨(s39 S0), rfl, ?_⟩
  refine c40 z1 L1 S1 _ rfl _ _ _ (fr1 (pu1 hO)) (fun H22 hO => ?_)
  replace hO := un1 hO
  refine ⟨(s40 S1), rfl, ?_⟩
  refine ⟨fun w23 => ?_, fun w24 => ?_⟩
  · replace h := ifTd w23 h
    replace hO := open_D (pu2 hO)
    obtain ⟨a25, k27, hv28⟩ := Gsl_val (pu2 hO)
    refine ⟨a25, S2.next.length, k27, ((hO.blk (.head _)).rdv (by rw [← hv28]; rfl)), ?_⟩
    replace hO := close_D L2 S2 (hO)
    subst h
    exact hR _ (pu2 (pu1 (pu0 hO)))

  · replace h := ifFd w24 h
    subst h
    exact hR _ (pu2 (pu1 (pu2 hO)))



theorem c41 (n_ : Nat) (z0 : Nat) (L0 : BL) (S0 : BS) (r_ : BS × List UInt8) (h : s41 n_ S0 = some r_) (F : List Ent) (H : Heap) (R : Value → Heap → Prop)
    (hO : Own H [oB z0 L0 S0] F)
    (hR : ∀ (H' : Heap) , Own H' [oB z0 L0 r_.1] F → R (str r_.2) H') :
    HCalls Tryz.prog 41 #[Value.pointer (some ⟨z0, 0, none⟩)] H R := by
  refine vc41 z0 H R ?_
  unfold s41 at h
  refine ⟨fun l Hc => ∃ m : Nat, ∃ S73 : BS, Own Hc [oB z0 L0 S73] F ∧ (l41_3 n_ m (asI (nth l 0)) (asI (nth l 1)) S73) = some r_, fun l Hc => Classical.epsilon <| lsp fun m => ∃ S73 : BS, Own Hc [oB z0 L0 S73] F ∧ (l41_3 n_ m (asI (nth l 0)) (asI (nth l 1)) S73) = some r_, ?_, ?_⟩
  · exact ⟨n_, S0, hO, h⟩
  · clear hO h
    intro H74 u75 x76 x77 hJ
    obtain ⟨m165, hm79, hJ⟩ := lst_get hJ
    obtain ⟨S73, hO, h⟩ := hJ
    rcases m165 with _ | k164
    · exact absurd h (by simp [l41_3, asI, asB, asC, asS])
    obtain ⟨rec78, hrec78, h⟩ : ∃ f_, f_ = l41_3 n_ k164 ∧ (l41_3_st n_ f_ x76 x77 S73) = some r_ := ⟨_, rfl, h⟩
    unfold l41_3_st at h
    refine ⟨fun w80 => ?_, fun w81 => ?_⟩
    · replace h := ifTd w80 h
      refine ⟨fun l Hc => ∃ S121 : BS, Own Hc [oB z0 L0 S121] F ∧ (k41_2 x77 rec78 (asI (nth l 0)) S121) = some r_, ?_, ?_⟩
      · replace hO := open_B (pu0 hO)
        refine ⟨L0.e, ((hO.blk (.head _)).rdv rfl), ?_⟩
        obtain ⟨r126, e127, h⟩ := bindS h
        refine c64 L0.e L0.el S73.e x77 r126 e127 _ _ _ (fr1 (pu1 hO)) (fun H128 hO => ?_)
        replace hO := un1 hO
        refine ⟨r126, rfl, ?_⟩
        refine ⟨fun w129 => ?_, fun w130 => ?_⟩
        · replace w129 := bnotT w129
          replace h := ifFb w129 h
          refine ⟨(some ⟨L0.out, 0, none⟩), 1056, 1056, ((hO.blk (.tail _ (.head _))).rdv rfl), ?_⟩
          obtain ⟨q131, h⟩ := ckS h
          refine ⟨(by decide), q131, ?_⟩
          obtain ⟨q132, h⟩ := ckS h
          refine ⟨_, .inl ⟨q132, rfl⟩, ?_⟩
          obtain ⟨q133, h⟩ := ckS h
          refine ⟨q133, ?_⟩
          obtain ⟨x134, g135, h⟩ := getS h
          refine ⟨_, _, rfl, g135.1, g135.2.1, rfl, ?_⟩
          refine ⟨((hO.arr (.tail _ (.tail _ (.tail _ (.tail _ (.tail _ (.head _))))))).wr1 lenC (i := Int.toNat x76) (j := 0) (getLt g135.2.2) (Nat.le_of_ble_eq_true rfl) (zo0 _)), ?_⟩
          intro H136 eH136
          replace hO := os5 (l' := List.flatMap encC (List.set S73.out (Int.toNat x76) ((48 : Int) + (Int.tdiv x77 (10 : Int))))) hO eH136 (flat_set1 lenC (i := Int.toNat x76) (j := 0) g135.2.2 (by decide) (zo0 _) rfl)
          refine ⟨(some ⟨L0.out, 0, none⟩), 1056, 1056, ((hO.blk (.tail _ (.head _))).rdv rfl), ?_⟩
          obtain ⟨q137, h⟩ := ckS h
          refine ⟨_, .inl ⟨q137, rfl⟩, ?_⟩
          refine ⟨(by decide), ?_⟩
          obtain ⟨q138, h⟩ := ckS h
          refine ⟨_, .inl ⟨q138, rfl⟩, ?_⟩
          obtain ⟨q139, h⟩ := ckS h
          refine ⟨q139, ?_⟩
          obtain ⟨x140, g141, h⟩ := getS h
          refine ⟨_, _, rfl, g141.1, g141.2.1, rfl, ?_⟩
          refine ⟨((hO.arr (.tail _ (.tail _ (.tail _ (.tail _ (.tail _ (.head _))))))).wr1 lenC (i := Int.toNat (x76 + (1 : Int))) (j := 0) (getLt g141.2.2) (Nat.le_of_ble_eq_true rfl) (zo0 _)), ?_⟩
          intro H142 eH142
          replace hO := os5 (l' := List.flatMap encC (List.set (List.set S73.out (Int.toNat x76) ((48 : Int) + (Int.tdiv x77 (10 : Int)))) (Int.toNat (x76 + (1 : Int))) ((48 : Int) + (Int.tmod x77 (10 : Int))))) hO eH142 (flat_set1 lenC (i := Int.toNat (x76 + (1 : Int))) (j := 0) g141.2.2 (by decide) (zo0 _) rfl)
          refine ⟨(some ⟨L0.out, 0, none⟩), 1056, 1056, ((hO.blk (.tail _ (.head _))).rdv rfl), ?_⟩
          obtain ⟨q143, h⟩ := ckS h
          refine ⟨_, .inl ⟨q143, rfl⟩, ?_⟩
          obtain ⟨q144, h⟩ := ckS h
          refine ⟨(by decide), q144, ?_⟩
          obtain ⟨q145, h⟩ := ckS h
          refine ⟨_, .inl ⟨q145, rfl⟩, ?_⟩
          obtain ⟨q146, h⟩ := ckS h
          refine ⟨q146, ?_⟩
          obtain ⟨x147, g148, h⟩ := getS h
          refine ⟨_, _, rfl, g148.1, g148.2.1, rfl, ?_⟩
          refine ⟨((hO.arr (.tail _ (.tail _ (.tail _ (.tail _ (.tail _ (.head _))))))).wr1 lenC (i := Int.toNat (x76 + (2 : Int))) (j := 0) (getLt g148.2.2) (Nat.le_of_ble_eq_true rfl) (zo0 _)), ?_⟩
          intro H149 eH149
          replace hO := os5 (l' := List.flatMap encC (List.set (List.set (List.set S73.out (Int.toNat x76) ((48 : Int) + (Int.tdiv x77 (10 : Int)))) (Int.toNat (x76 + (1 : Int))) ((48 : Int) + (Int.tmod x77 (10 : Int)))) (Int.toNat (x76 + (2 : Int))) ((48 : Int) + (Int.tdiv (r126.length : Int) (10 : Int))))) hO eH149 (flat_set1 lenC (i := Int.toNat (x76 + (2 : Int))) (j := 0) g148.2.2 (by decide) (zo0 _) rfl)
          refine ⟨(some ⟨L0.out, 0, none⟩), 1056, 1056, ((hO.blk (.tail _ (.head _))).rdv rfl), ?_⟩
          obtain ⟨q150, h⟩ := ckS h
          refine ⟨_, .inl ⟨q150, rfl⟩, ?_⟩
          refine ⟨(by decide), ?_⟩
          obtain ⟨q151, h⟩ := ckS h
          refine ⟨_, .inl ⟨q151, rfl⟩, ?_⟩
          obtain ⟨q152, h⟩ := ckS h
          refine ⟨q152, ?_⟩
          obtain ⟨x153, g154, h⟩ := getS h
          refine ⟨_, _, rfl, g154.1, g154.2.1, rfl, ?_⟩
          refine ⟨((hO.arr (.tail _ (.tail _ (.tail _ (.tail _ (.tail _ (.head _))))))).wr1 lenC (i := Int.toNat (x76 + (3 : Int))) (j := 0) (getLt g154.2.2) (Nat.le_of_ble_eq_true rfl) (zo0 _)), ?_⟩
          intro H155 eH155
          replace hO := os5 (l' := List.flatMap encC (List.set (List.set (List.set (List.set S73.out (Int.toNat x76) ((48 : Int) + (Int.tdiv x77 (10 : Int)))) (Int.toNat (x76 + (1 : Int))) ((48 : Int) + (Int.tmod x77 (10 : Int)))) (Int.toNat (x76 + (2 : Int))) ((48 : Int) + (Int.tdiv (r126.length : Int) (10 : Int)))) (Int.toNat (x76 + (3 : Int))) ((48 : Int) + (Int.tmod (r126.length : Int) (10 : Int))))) hO eH155 (flat_set1 lenC (i := Int.toNat (x76 + (3 : Int))) (j := 0) g154.2.2 (by decide) (zo0 _) rfl)
          refine ⟨(some ⟨L0.out, 0, none⟩), 1056, 1056, ((hO.blk (.tail _ (.head _))).rdv rfl), ?_⟩
          obtain ⟨q156, h⟩ := ckS h
          refine ⟨_, .inl ⟨q156, rfl⟩, ?_⟩
          obtain ⟨q157, h⟩ := ckS h
          refine ⟨_, _, rfl, q157.1, q157.2.1, q157.2.2, ?_⟩
          obtain ⟨q158, h⟩ := ckS h
          refine ⟨rfl, rfl, _, _, rfl, putL_wr (hO.arr (.tail _ (.tail _ (.tail _ (.tail _ (.tail _ (.head _))))))) (by rw [Nat.zero_add, Nat.mul_one]) q158, ?_⟩
          intro H159 eH159
          replace hO := oz5 (l' := List.flatMap encC (putL (List.set (List.set (List.set (List.set S73.out (Int.toNat x76) ((48 : Int) + (Int.tdiv x77 (10 : Int)))) (Int.toNat (x76 + (1 : Int))) ((48 : Int) + (Int.tmod x77 (10 : Int)))) (Int.toNat (x76 + (2 : Int))) ((48 : Int) + (Int.tdiv (r126.length : Int) (10 : Int)))) (Int.toNat (x76 + (3 : Int))) ((48 : Int) + (Int.tmod (r126.length : Int) (10 : Int)))) (Int.toNat (x76 + (4 : Int))) (List.take (Nat.min r126.length (1056 - Int.toNat (x76 + (4 : Int)))) r126))) hO eH159 (putL_row (by rw [Nat.zero_add, Nat.mul_one]) q158)
          refine ⟨_, .inl ⟨q156, rfl⟩, ?_⟩
          obtain ⟨q160, h⟩ := ckS h
          refine ⟨_, .inl ⟨q160, rfl⟩, ?_⟩
          replace hO := close_B L0 ({ S73 with out := (putL (List.set (List.set (List.set (List.set S73.out (Int.toNat x76) ((48 : Int) + (Int.tdiv x77 (10 : Int)))) (Int.toNat (x76 + (1 : Int))) ((48 : Int) + (Int.tmod x77 (10 : Int)))) (Int.toNat (x76 + (2 : Int))) ((48 : Int) + (Int.tdiv (r126.length : Int) (10 : Int)))) (Int.toNat (x76 + (3 : Int))) ((48 : Int) + (Int.tmod (r126.length : Int) (10 : Int)))) (Int.toNat (x76 + (4 : Int))) (List.take (Nat.min r126.length (1056 - Int.toNat (x76 + (4 : Int)))) r126)) }) (pu5 (pu4 (pu5 (pu5 (pu5 (pu5 hO))))))
          exact ⟨({ S73 with out := (putL (List.set (List.set (List.set (List.set S73.out (Int.toNat x76) ((48 : Int) + (Int.tdiv x77 (10 : Int)))) (Int.toNat (x76 + (1 : Int))) ((48 : Int) + (Int.tmod x77 (10 : Int)))) (Int.toNat (x76 + (2 : Int))) ((48 : Int) + (Int.tdiv (r126.length : Int) (10 : Int)))) (Int.toNat (x76 + (3 : Int))) ((48 : Int) + (Int.tmod (r126.length : Int) (10 : Int)))) (Int.toNat (x76 + (4 : Int))) (List.take (Nat.min r126.length (1056 - Int.toNat (x76 + (4 : Int)))) r126)) }), hO, h⟩

        · replace w130 := bnotF w130
          replace h := ifTb w130 h
          replace hO := close_B L0 S73 (pu5 (pu4 (pu5 (pu5 (pu5 (pu5 hO))))))
          exact ⟨S73, hO, h⟩


      · clear hO h
        intro H122 u123 x124 hJ
        obtain ⟨S121, hO, h⟩ := hJ
        replace h : (k41_2 x77 rec78 x124 S121) = some r_ := h
        unfold k41_2 at h
        obtain ⟨q125, h⟩ := ckS h
        refine ⟨_, .inl ⟨q125, rfl⟩, ?_⟩
        subst hrec78
        exact lst_step hm79 ⟨S121, hO, h⟩


    · replace h := ifFd w81 h
      replace hO := open_B (pu0 hO)
      refine ⟨(some ⟨L0.out, 0, none⟩), 1056, 1056, ((hO.blk (.head _)).rdv rfl), ?_⟩
      obtain ⟨q161, h⟩ := ckS h
      refine ⟨q161.1, q161.2, ?_⟩
      obtain ⟨s162, g163, h⟩ := bindS h
      refine ⟨rfl, _, _, rfl, s162, toS_len g163, toS_row g163 (hO.arr (.tail _ (.tail _ (.tail _ (.tail _ (.tail _ (.head _))))))) (by rfl), ?_⟩
      replace hO := close_B L0 S73 (hO)
      obtain rfl := Option.some.inj h
      exact hR _ hO




theorem c68 (z0 : Int) (r_ : List UInt8) (h : s68 z0 = some r_) (F : List Ent) (H : Heap) (R : Value → Heap → Prop)
    (hO : Own H [] F)
    (hR : ∀ (H' : Heap) , Own H' [] F → R (str r_) H') :
    HCalls Tryz.prog 68 #[I z0] H R := by
  refine vc68 z0 H R ?_
  unfold s68 at h
  obtain ⟨q21, h⟩ := ckS h
  refine ⟨(by decide), q21, ?_⟩
  obtain ⟨q22, h⟩ := ckS h
  refine ⟨_, .inl ⟨q22, rfl⟩, ?_⟩
  obtain ⟨q23, h⟩ := ckS h
  refine ⟨q23, ?_⟩
  refine ⟨(by decide), ?_⟩
  obtain ⟨q24, h⟩ := ckS h
  refine ⟨_, .inl ⟨q24, rfl⟩, ?_⟩
  obtain ⟨q25, h⟩ := ckS h
  refine ⟨q25, ?_⟩
  intro H26 eH26
  replace hO := own_new (l := [Value.int .u8 ((48 : Int) + (Int.tdiv z0 (10 : Int))), Value.int .u8 ((48 : Int) + (Int.tmod z0 (10 : Int)))]) hO eH26 rfl
  refine ⟨rfl, _, _, rfl, ([UInt8.ofNat (Int.toNat ((48 : Int) + (Int.tdiv z0 (10 : Int)))), UInt8.ofNat (Int.toNat ((48 : Int) + (Int.tmod z0 (10 : Int))))] : List UInt8), rfl, (hO.blk (.head _)).rowT (by simp only [List.map_cons, List.map_nil, u8v q23, u8v q25]; rfl), ?_⟩
  obtain rfl := Option.some.inj h
  exact hR _ (dr0 (hO))


theorem c42 (n_ : Nat) (z0 : Nat) (L0 : BML) (S0 : BMS) (r_ : List UInt8) (h : s42 n_ S0 = some r_) (F : List Ent) (H : Heap) (R : Value → Heap → Prop)
    (hO : Own H [oBM z0 L0 S0] F)
    (hR : ∀ (H' : Heap) , Own H' [oBM z0 L0 S0] F → R (str r_) H') :
    HCalls Tryz.prog 42 #[Value.pointer (some ⟨z0, 0, none⟩)] H R := by
  refine vc42 z0 H R ?_
  unfold s42 at h
  refine ⟨fun l Hc => ∃ m : Nat, Own Hc [oBM z0 L0 S0] F ∧ (l42_1 n_ S0 m (asS (nth l 0)) (asI (nth l 1))) = some r_, fun l Hc => Classical.epsilon <| lsp fun m => Own Hc [oBM z0 L0 S0] F ∧ (l42_1 n_ S0 m (asS (nth l 0)) (asI (nth l 1))) = some r_, ?_, ?_⟩
  · exact ⟨n_, hO, h⟩
  · clear hO h
    intro H21 u22 x23 x24 hJ
    obtain ⟨m48, hm26, hJ⟩ := lst_get hJ
    obtain ⟨hO, h⟩ := hJ
    rcases m48 with _ | k47
    · exact absurd h (by simp [l42_1, asI, asB, asC, asS])
    obtain ⟨rec25, hrec25, h⟩ : ∃ f_, f_ = l42_1 n_ S0 k47 ∧ (l42_1_st n_ S0 f_ x23 x24) = some r_ := ⟨_, rfl, h⟩
    unfold l42_1_st at h
    refine ⟨fun w27 => ?_, fun w28 => ?_⟩
    · replace h := ifTd w27 h
      refine ⟨fun l Hc => Own Hc [oBM z0 L0 S0] F ∧ (k42_0 x24 rec25 (asS (nth l 0))) = some r_, ?_, ?_⟩
      · replace hO := open_BM (pu0 hO)
        refine ⟨L0.e, ((hO.blk (.head _)).rdv rfl), ?_⟩
        obtain ⟨r33, e34, h⟩ := bindS h
        refine c65 L0.e L0.el S0.e x24 r33 e34 _ _ _ (fr1 (pu1 hO)) (fun H35 hO => ?_)
        replace hO := un1 hO
        refine ⟨r33, rfl, ?_⟩
        refine ⟨fun w36 => ?_, fun w37 => ?_⟩
        · replace w36 := bnotT w36
          replace h := ifFb w36 h
          obtain ⟨r38, e39, h⟩ := bindS h
          refine c68 x24 r38 e39 _ _ _ (fr0 hO) (fun H40 hO => ?_)
          replace hO := un0 hO
          refine ⟨r38, rfl, ?_⟩
          obtain ⟨q41, h⟩ := ckS h
          refine ⟨q41, ?_⟩
          obtain ⟨r42, e43, h⟩ := bindS h
          refine c68 (r33.length : Int) r42 e43 _ _ _ (fr0 hO) (fun H44 hO => ?_)
          replace hO := un0 hO
          refine ⟨r42, rfl, ?_⟩
          obtain ⟨q45, h⟩ := ckS h
          refine ⟨q45, ?_⟩
          obtain ⟨q46, h⟩ := ckS h
          refine ⟨q46, ?_⟩
          replace hO := close_BM L0 S0 (pu3 (pu2 (pu3 (pu3 hO))))
          exact ⟨hO, h⟩

        · replace w37 := bnotF w37
          replace h := ifTb w37 h
          replace hO := close_BM L0 S0 (pu3 (pu2 (pu3 (pu3 hO))))
          exact ⟨hO, h⟩


      · clear hO h
        intro H29 u30 x31 hJ
        obtain ⟨hO, h⟩ := hJ
        replace h : (k42_0 x24 rec25 x31) = some r_ := h
        unfold k42_0 at h
        obtain ⟨q32, h⟩ := ckS h
        refine ⟨_, .inl ⟨q32, rfl⟩, ?_⟩
        subst hrec25
        exact lst_step hm26 ⟨hO, h⟩


    · replace h := ifFd w28 h
      obtain rfl := Option.some.inj h
      exact hR _ hO




theorem c23 (n_ : Nat) (z0 : Nat) (L0 : BL) (S0 : BS) (z1 : Nat) (L1 : BML) (S1 : BMS) (r_ : BS × List UInt8 × Bool) (h : s23 n_ S0 S1 = some r_) (F : List Ent) (H : Heap) (R : Value → Heap → Prop)
    (hO : Own H [oB z0 L0 S0, oBM z1 L1 S1] F)
    (hR : ∀ (H' : Heap) , Own H' [oB z0 L0 r_.1, oBM z1 L1 S1] F → R (.tuple #[str r_.2.1, .bool r_.2.2]) H') :
    HCalls Tryz.prog 23 #[Value.pointer (some ⟨z0, 0, none⟩), Value.pointer (some ⟨z1, 0, none⟩)] H R := by
  refine vc23 z0 z1 H R ?_
  unfold s23 at h
  obtain ⟨r21, e22, h⟩ := bindS h
  refine c41 n_ z0 L0 S0 r21 e22 _ _ _ (fr1 hO) (fun H23 hO => ?_)
  replace hO := un1 hO
  refine ⟨r21.2, rfl, ?_⟩
  obtain ⟨r24, e25, h⟩ := bindS h
  refine c42 n_ z1 L1 S1 r24 e25 _ _ _ (fr1 (pu1 hO)) (fun H26 hO => ?_)
  replace hO := un1 hO
  refine ⟨r24, rfl, ?_⟩
  obtain rfl := Option.some.inj h
  exact hR _ (pu1 (pu0 hO))


theorem c43 (z0 : Nat) (L0 : BL) (S0 : BS) (z1 : Int) (r_ : Int) (h : s43 S0 z1 = some r_) (F : List Ent) (H : Heap) (R : Value → Heap → Prop)
    (hO : Own H [oB z0 L0 S0] F)
    (hR : ∀ (H' : Heap) , Own H' [oB z0 L0 S0] F → R (I r_) H') :
    HCalls Tryz.prog 43 #[Value.pointer (some ⟨z0, 0, none⟩), I z1] H R := by
  refine vc43 z0 z1 H R ?_
  unfold s43 at h
  replace hO := open_B (pu0 hO)
  refine ⟨S0.base, ((hO.blk (.head _)).rdv rfl), ?_⟩
  obtain ⟨q21, h⟩ := ckS h
  refine ⟨_, .inl ⟨q21, rfl⟩, ?_⟩
  refine ⟨(by decide), ?_⟩
  replace hO := close_B L0 S0 (hO)
  obtain rfl := Option.some.inj h
  exact hR _ hO


theorem c69 (z0 : Int) (z1 : Int) (r_ : Int) (h : s69 z0 z1 = some r_) (F : List Ent) (H : Heap) (R : Value → Heap → Prop)
    (hO : Own H [] F)
    (hR : ∀ (H' : Heap) , Own H' [] F → R (I r_) H') :
    HCalls Tryz.prog 69 #[I z0, I z1] H R := by
  refine vc69 z0 z1 H R ?_
  unfold s69 at h
  obtain ⟨q21, h⟩ := ckS h
  refine ⟨q21, ?_⟩
  obtain ⟨q22, h⟩ := ckS h
  refine ⟨_, .inl ⟨q22, rfl⟩, ?_⟩
  obtain ⟨q23, h⟩ := ckS h
  refine ⟨q23, ?_⟩
  obtain rfl := Option.some.inj h
  exact hR _ hO


theorem c44 (n_ : Nat) (z0 : Nat) (L0 : BL) (S0 : BS) (z1 : Int) (z2 : Bool) (r_ : Bool) (h : s44 n_ S0 z1 z2 = some r_) (F : List Ent) (H : Heap) (R : Value → Heap → Prop)
    (hO : Own H [oB z0 L0 S0] F)
    (hR : ∀ (H' : Heap) , Own H' [oB z0 L0 S0] F → R (.bool r_) H') :
    HCalls Tryz.prog 44 #[Value.pointer (some ⟨z0, 0, none⟩), I z1, Value.bool z2] H R := by
  refine vc44 z0 z1 z2 H R ?_
  unfold s44 at h
  replace hO := open_B (pu0 hO)
  refine ⟨(some ⟨L0.turned, 0, none⟩), 6, 6, ((hO.blk (.head _)).rdv rfl), ?_⟩
  obtain ⟨x21, g22, h⟩ := getS h
  refine ⟨_, _, rfl, g22.1, g22.2.1, rfl, ?_⟩
  refine ⟨x21, ((hO.arr (.tail _ (.tail _ (.tail _ (.head _))))).rd (i := Int.toNat z1) (j := 0) lenU g22.2.2 (by decide) (zo0 _) rfl), ?_⟩
  refine ⟨x21, rfl, (by decide), ?_⟩
  refine ⟨fun w23 => ?_, fun w24 => ?_⟩
  · replace w23 := bnotT w23
    replace h := ifFd w23 h
    replace hO := close_B L0 S0 (hO)
    obtain rfl := Option.some.inj h
    exact hR _ hO

  · replace w24 := bnotF w24
    replace h := ifTd w24 h
    refine ⟨fun w25 => ?_, fun w26 => ?_⟩
    · replace w25 := bnotT w25
      replace h := ifFb w25 h
      refine ⟨fun w27 => ?_, fun w28 => ?_⟩
      · replace w27 := bnotT w27
        replace h := ifFd w27 h
        replace hO := close_B L0 S0 (hO)
        obtain rfl := Option.some.inj h
        exact hR _ hO

      · replace w28 := bnotF w28
        replace h := ifTd w28 h
        replace hO := close_B L0 S0 (hO)
        refine ⟨fun l Hc => ∃ m : Nat, Own Hc [oB z0 L0 S0] F ∧ (l44_1 n_ S0 z1 x21 m (asI (nth l 0))) = some r_, fun l Hc => Classical.epsilon <| lsp fun m => Own Hc [oB z0 L0 S0] F ∧ (l44_1 n_ S0 z1 x21 m (asI (nth l 0))) = some r_, ?_, ?_⟩
        · exact ⟨n_, hO, h⟩
        · clear hO h
          intro H29 u30 x31 hJ
          obtain ⟨m63, hm33, hJ⟩ := lst_get hJ
          obtain ⟨hO, h⟩ := hJ
          rcases m63 with _ | k62
          · exact absurd h (by simp [l44_1, asI, asB, asC, asS])
          obtain ⟨rec32, hrec32, h⟩ : ∃ f_, f_ = l44_1 n_ S0 z1 x21 k62 ∧ (l44_1_st n_ S0 z1 x21 f_ x31) = some r_ := ⟨_, rfl, h⟩
          unfold l44_1_st at h
          refine ⟨fun w34 => ?_, fun w35 => ?_⟩
          · replace h := ifTd w34 h
            refine ⟨fun l Hc => Own Hc [oB z0 L0 S0] F ∧ (k44_0 x31 rec32) = some r_, ?_, ?_⟩
            · obtain ⟨r39, e40, h⟩ := bindS h
              refine c69 z1 x31 r39 e40 _ _ _ (fr0 hO) (fun H41 hO => ?_)
              replace hO := un0 hO
              refine ⟨r39, rfl, ?_⟩
              obtain ⟨q42, h⟩ := ckS h
              refine ⟨q42, ?_⟩
              obtain ⟨q43, h⟩ := ckS h
              refine ⟨x21, rfl, q43, ?_⟩
              refine ⟨(x21 >>> Int.toNat x31), (1 : BitVec 32), rfl, rfl, ?_⟩
              refine ⟨fun w44 => ?_, fun w45 => ?_⟩
              · replace h := ifTd w44 h
                replace hO := open_B (pu0 hO)
                refine ⟨(some ⟨L0.pool, 0, none⟩), 288, 288, ((hO.blk (.head _)).rdv rfl), ?_⟩
                obtain ⟨x46, g47, h⟩ := getS h
                refine ⟨_, _, rfl, g47.1, g47.2.1, rfl, ?_⟩
                refine ⟨x46, ((hO.arr (.tail _ (.tail _ (.head _)))).rd (i := Int.toNat r39) (j := 0) lenStr g47.2.2 (by decide) (zo0 _) rfl), ?_⟩
                refine ⟨(some ⟨L0.pool, 0, none⟩), 288, 288, ((hO.blk (.head _)).rdv rfl), ?_⟩
                obtain ⟨q48, h⟩ := ckS h
                refine ⟨_, .inl ⟨q48, rfl⟩, ?_⟩
                obtain ⟨x49, g50, h⟩ := getS h
                refine ⟨_, _, rfl, g50.1, g50.2.1, rfl, ?_⟩
                refine ⟨x49, ((hO.arr (.tail _ (.tail _ (.head _)))).rd (i := Int.toNat (r39 + (1 : Int))) (j := 0) lenStr g50.2.2 (by decide) (zo0 _) rfl), ?_⟩
                refine ⟨fun w51 => ?_, fun w52 => ?_⟩
                · replace h := ifTb w51 h
                  replace hO := close_B L0 S0 (hO)
                  obtain rfl := Option.some.inj h
                  exact hR _ hO

                · replace h := ifFb w52 h
                  replace hO := close_B L0 S0 (hO)
                  exact ⟨hO, h⟩


              · replace h := ifFd w45 h
                replace hO := open_B (pu0 hO)
                refine ⟨(some ⟨L0.pool, 0, none⟩), 288, 288, ((hO.blk (.head _)).rdv rfl), ?_⟩
                obtain ⟨x53, g54, h⟩ := getS h
                refine ⟨_, _, rfl, g54.1, g54.2.1, rfl, ?_⟩
                refine ⟨x53, ((hO.arr (.tail _ (.tail _ (.head _)))).rd (i := Int.toNat r39) (j := 0) lenStr g54.2.2 (by decide) (zo0 _) rfl), ?_⟩
                refine ⟨fun w56 => ?_, fun w55 => ?_⟩
                · replace w56 := bnotF w56
                  replace h := ifTb w56 h
                  refine ⟨(some ⟨L0.pool, 0, none⟩), 288, 288, ((hO.blk (.head _)).rdv rfl), ?_⟩
                  obtain ⟨q57, h⟩ := ckS h
                  refine ⟨_, .inl ⟨q57, rfl⟩, ?_⟩
                  obtain ⟨x58, g59, h⟩ := getS h
                  refine ⟨_, _, rfl, g59.1, g59.2.1, rfl, ?_⟩
                  refine ⟨x58, ((hO.arr (.tail _ (.tail _ (.head _)))).rd (i := Int.toNat (r39 + (1 : Int))) (j := 0) lenStr g59.2.2 (by decide) (zo0 _) rfl), ?_⟩
                  refine ⟨fun w60 => ?_, fun w61 => ?_⟩
                  · replace w60 := bnotT w60
                    replace h := ifFb w60 h
                    replace hO := close_B L0 S0 (hO)
                    obtain rfl := Option.some.inj h
                    exact hR _ hO

                  · replace w61 := bnotF w61
                    replace h := ifTb w61 h
                    replace hO := close_B L0 S0 (hO)
                    exact ⟨hO, h⟩


                · replace w55 := bnotT w55
                  replace h := ifFb w55 h
                  replace hO := close_B L0 S0 (hO)
                  obtain rfl := Option.some.inj h
                  exact hR _ hO



            · clear hO h
              intro H36 u37  hJ
              obtain ⟨hO, h⟩ := hJ
              replace h : (k44_0 x31 rec32) = some r_ := h
              unfold k44_0 at h
              obtain ⟨q38, h⟩ := ckS h
              refine ⟨_, .inl ⟨q38, rfl⟩, ?_⟩
              subst hrec32
              exact lst_step hm33 ⟨hO, h⟩


          · replace h := ifFd w35 h
            obtain rfl := Option.some.inj h
            exact hR _ hO




    · replace w26 := bnotF w26
      replace h := ifTb w26 h
      replace hO := close_B L0 S0 (hO)
      refine ⟨fun l Hc => ∃ m : Nat, Own Hc [oB z0 L0 S0] F ∧ (l44_1 n_ S0 z1 x21 m (asI (nth l 0))) = some r_, fun l Hc => Classical.epsilon <| lsp fun m => Own Hc [oB z0 L0 S0] F ∧ (l44_1 n_ S0 z1 x21 m (asI (nth l 0))) = some r_, ?_, ?_⟩
      · exact ⟨n_, hO, h⟩
      · clear hO h
        intro H64 u65 x66 hJ
        obtain ⟨m98, hm68, hJ⟩ := lst_get hJ
        obtain ⟨hO, h⟩ := hJ
        rcases m98 with _ | k97
        · exact absurd h (by simp [l44_1, asI, asB, asC, asS])
        obtain ⟨rec67, hrec67, h⟩ : ∃ f_, f_ = l44_1 n_ S0 z1 x21 k97 ∧ (l44_1_st n_ S0 z1 x21 f_ x66) = some r_ := ⟨_, rfl, h⟩
        unfold l44_1_st at h
        refine ⟨fun w69 => ?_, fun w70 => ?_⟩
        · replace h := ifTd w69 h
          refine ⟨fun l Hc => Own Hc [oB z0 L0 S0] F ∧ (k44_0 x66 rec67) = some r_, ?_, ?_⟩
          · obtain ⟨r74, e75, h⟩ := bindS h
            refine c69 z1 x66 r74 e75 _ _ _ (fr0 hO) (fun H76 hO => ?_)
            replace hO := un0 hO
            refine ⟨r74, rfl, ?_⟩
            obtain ⟨q77, h⟩ := ckS h
            refine ⟨q77, ?_⟩
            obtain ⟨q78, h⟩ := ckS h
            refine ⟨x21, rfl, q78, ?_⟩
            refine ⟨(x21 >>> Int.toNat x66), (1 : BitVec 32), rfl, rfl, ?_⟩
            refine ⟨fun w79 => ?_, fun w80 => ?_⟩
            · replace h := ifTd w79 h
              replace hO := open_B (pu0 hO)
              refine ⟨(some ⟨L0.pool, 0, none⟩), 288, 288, ((hO.blk (.head _)).rdv rfl), ?_⟩
              obtain ⟨x81, g82, h⟩ := getS h
              refine ⟨_, _, rfl, g82.1, g82.2.1, rfl, ?_⟩
              refine ⟨x81, ((hO.arr (.tail _ (.tail _ (.head _)))).rd (i := Int.toNat r74) (j := 0) lenStr g82.2.2 (by decide) (zo0 _) rfl), ?_⟩
              refine ⟨(some ⟨L0.pool, 0, none⟩), 288, 288, ((hO.blk (.head _)).rdv rfl), ?_⟩
              obtain ⟨q83, h⟩ := ckS h
              refine ⟨_, .inl ⟨q83, rfl⟩, ?_⟩
              obtain ⟨x84, g85, h⟩ := getS h
              refine ⟨_, _, rfl, g85.1, g85.2.1, rfl, ?_⟩
              refine ⟨x84, ((hO.arr (.tail _ (.tail _ (.head _)))).rd (i := Int.toNat (r74 + (1 : Int))) (j := 0) lenStr g85.2.2 (by decide) (zo0 _) rfl), ?_⟩
              refine ⟨fun w86 => ?_, fun w87 => ?_⟩
              · replace h := ifTb w86 h
                replace hO := close_B L0 S0 (hO)
                obtain rfl := Option.some.inj h
                exact hR _ hO

              · replace h := ifFb w87 h
                replace hO := close_B L0 S0 (hO)
                exact ⟨hO, h⟩


            · replace h := ifFd w80 h
              replace hO := open_B (pu0 hO)
              refine ⟨(some ⟨L0.pool, 0, none⟩), 288, 288, ((hO.blk (.head _)).rdv rfl), ?_⟩
              obtain ⟨x88, g89, h⟩ := getS h
              refine ⟨_, _, rfl, g89.1, g89.2.1, rfl, ?_⟩
              refine ⟨x88, ((hO.arr (.tail _ (.tail _ (.head _)))).rd (i := Int.toNat r74) (j := 0) lenStr g89.2.2 (by decide) (zo0 _) rfl), ?_⟩
              refine ⟨fun w91 => ?_, fun w90 => ?_⟩
              · replace w91 := bnotF w91
                replace h := ifTb w91 h
                refine ⟨(some ⟨L0.pool, 0, none⟩), 288, 288, ((hO.blk (.head _)).rdv rfl), ?_⟩
                obtain ⟨q92, h⟩ := ckS h
                refine ⟨_, .inl ⟨q92, rfl⟩, ?_⟩
                obtain ⟨x93, g94, h⟩ := getS h
                refine ⟨_, _, rfl, g94.1, g94.2.1, rfl, ?_⟩
                refine ⟨x93, ((hO.arr (.tail _ (.tail _ (.head _)))).rd (i := Int.toNat (r74 + (1 : Int))) (j := 0) lenStr g94.2.2 (by decide) (zo0 _) rfl), ?_⟩
                refine ⟨fun w95 => ?_, fun w96 => ?_⟩
                · replace w95 := bnotT w95
                  replace h := ifFb w95 h
                  replace hO := close_B L0 S0 (hO)
                  obtain rfl := Option.some.inj h
                  exact hR _ hO

                · replace w96 := bnotF w96
                  replace h := ifTb w96 h
                  replace hO := close_B L0 S0 (hO)
                  exact ⟨hO, h⟩


              · replace w90 := bnotT w90
                replace h := ifFb w90 h
                replace hO := close_B L0 S0 (hO)
                obtain rfl := Option.some.inj h
                exact hR _ hO



          · clear hO h
            intro H71 u72  hJ
            obtain ⟨hO, h⟩ := hJ
            replace h : (k44_0 x66 rec67) = some r_ := h
            unfold k44_0 at h
            obtain ⟨q73, h⟩ := ckS h
            refine ⟨_, .inl ⟨q73, rfl⟩, ?_⟩
            subst hrec67
            exact lst_step hm68 ⟨hO, h⟩


        · replace h := ifFd w70 h
          obtain rfl := Option.some.inj h
          exact hR _ hO






theorem c45 (n_ : Nat) (z0 : Nat) (L0 : BL) (S0 : BS) (b1 : Nat) (a1 : List (List UInt8)) (m1 c1 : Nat) (r_ : List (List UInt8)) (h : s45 n_ S0 a1 m1 = some r_) (F : List Ent) (H : Heap) (R : Value → Heap → Prop)
    (hO : Own H [oB z0 L0 S0, cellE 9 b1 (List.flatMap encS a1)] F)
    (hR : ∀ (H' : Heap) , Own H' [oB z0 L0 S0, cellE 9 b1 (List.flatMap encS r_)] F → R (.tuple #[]) H') :
    HCalls Tryz.prog 45 #[Value.pointer (some ⟨z0, 0, none⟩), Value.slice (some ⟨b1, 0, none⟩) m1 c1] H R := by
  refine vc45 z0 (some ⟨b1, 0, none⟩) m1 c1 H R ?_
  unfold s45 at h
  refine ⟨fun l Hc => ∃ m : Nat, ∃ a35 : List (List UInt8), Own Hc [oB z0 L0 S0, cellE 9 b1 (List.flatMap encS a35)] F ∧ (l45_0 n_ S0 m1 m (asI (nth l 0)) a35) = some r_, fun l Hc => Classical.epsilon <| lsp fun m => ∃ a35 : List (List UInt8), Own Hc [oB z0 L0 S0, cellE 9 b1 (List.flatMap encS a35)] F ∧ (l45_0 n_ S0 m1 m (asI (nth l 0)) a35) = some r_, ?_, ?_⟩
  · exact ⟨n_, a1, hO, h⟩
  · clear hO h
    intro H36 u37 x38 hJ
    obtain ⟨m51, hm40, hJ⟩ := lst_get hJ
    obtain ⟨a35, hO, h⟩ := hJ
    rcases m51 with _ | k50
    · exact absurd h (by simp [l45_0, asI, asB, asC, asS])
    obtain ⟨rec39, hrec39, h⟩ : ∃ f_, f_ = l45_0 n_ S0 m1 k50 ∧ (l45_0_st n_ S0 m1 f_ x38 a35) = some r_ := ⟨_, rfl, h⟩
    unfold l45_0_st at h
    refine ⟨fun w41 => ?_, fun w42 => ?_⟩
    · replace h := ifTd w41 h
      replace hO := open_B (pu0 hO)
      refine ⟨L0.e, ((hO.blk (.head _)).rdv rfl), ?_⟩
      obtain ⟨r43, e44, h⟩ := bindS h
      refine c64 L0.e L0.el S0.e x38 r43 e44 _ _ _ (fr1 (pu1 hO)) (fun H45 hO => ?_)
      replace hO := un1 hO
      refine ⟨r43, rfl, ?_⟩
      obtain ⟨x46, g47, h⟩ := getS h
      refine ⟨_, _, rfl, g47.1, g47.2.1, rfl, ?_⟩
      refine ⟨((hO.arr (.tail _ (.tail _ (.tail _ (.tail _ (.tail _ (.tail _ (.head _)))))))).wr1 lenStr (i := Int.toNat x38) (j := 0) (getLt g47.2.2) (Nat.le_of_ble_eq_true rfl) (zo0 _)), ?_⟩
      intro H48 eH48
      replace hO := os6 (l' := List.flatMap encS (List.set a35 (Int.toNat x38) r43)) hO eH48 (flat_set1 lenStr (i := Int.toNat x38) (j := 0) g47.2.2 (by decide) (zo0 _) rfl)
      obtain ⟨q49, h⟩ := ckS h
      refine ⟨_, .inl ⟨q49, rfl⟩, ?_⟩
      replace hO := close_B L0 S0 (pu5 (pu4 (pu5 (pu5 (pu5 (pu5 hO))))))
      subst hrec39
      exact lst_step hm40 ⟨(List.set a35 (Int.toNat x38) r43), hO, h⟩

    · replace h := ifFd w42 h
      obtain rfl := Option.some.inj h
      exact hR _ hO




theorem c46 (n_ : Nat) (z0 : Nat) (L0 : BL) (S0 : BS) (b1 : Nat) (a1 : List (List UInt8)) (m1 c1 : Nat) (z2 : Int) (z3 : Int) (r_ : List (List UInt8) × Bool) (h : s46 n_ S0 a1 m1 z2 z3 = some r_) (F : List Ent) (H : Heap) (R : Value → Heap → Prop)
    (hO : Own H [oB z0 L0 S0, cellE 9 b1 (List.flatMap encS a1)] F)
    (hR : ∀ (H' : Heap) , Own H' [oB z0 L0 S0, cellE 9 b1 (List.flatMap encS r_.1)] F → R (.bool r_.2) H') :
    HCalls Tryz.prog 46 #[Value.pointer (some ⟨z0, 0, none⟩), Value.slice (some ⟨b1, 0, none⟩) m1 c1, I z2, I z3] H R := by
  refine vc46 z0 (some ⟨b1, 0, none⟩) m1 c1 z2 z3 H R ?_
  unfold s46 at h
  replace hO := open_B (pu0 hO)
  refine ⟨(some ⟨L0.turned, 0, none⟩), 6, 6, ((hO.blk (.head _)).rdv rfl), ?_⟩
  obtain ⟨x21, g22, h⟩ := getS h
  refine ⟨_, _, rfl, g22.1, g22.2.1, rfl, ?_⟩
  refine ⟨x21, ((hO.arr (.tail _ (.tail _ (.tail _ (.head _))))).rd (i := Int.toNat z2) (j := 0) lenU g22.2.2 (by decide) (zo0 _) rfl), ?_⟩
  replace hO := close_B L0 S0 (hO)
  refine ⟨fun l Hc => ∃ m : Nat, ∃ a56 : List (List UInt8), Own Hc [oB z0 L0 S0, cellE 9 b1 (List.flatMap encS a56)] F ∧ (l46_3 n_ S0 m1 z2 z3 x21 m (asI (nth l 0)) a56) = some r_, fun l Hc => Classical.epsilon <| lsp fun m => ∃ a56 : List (List UInt8), Own Hc [oB z0 L0 S0, cellE 9 b1 (List.flatMap encS a56)] F ∧ (l46_3 n_ S0 m1 z2 z3 x21 m (asI (nth l 0)) a56) = some r_, ?_, ?_⟩
  · exact ⟨n_, a1, hO, h⟩
  · clear hO h
    intro H57 u58 x59 hJ
    obtain ⟨m110, hm61, hJ⟩ := lst_get hJ
    obtain ⟨a56, hO, h⟩ := hJ
    rcases m110 with _ | k109
    · exact absurd h (by simp [l46_3, asI, asB, asC, asS])
    obtain ⟨rec60, hrec60, h⟩ : ∃ f_, f_ = l46_3 n_ S0 m1 z2 z3 x21 k109 ∧ (l46_3_st n_ S0 m1 z2 z3 x21 f_ x59 a56) = some r_ := ⟨_, rfl, h⟩
    unfold l46_3_st at h
    refine ⟨fun w62 => ?_, fun w63 => ?_⟩
    · replace h := ifTd w62 h
      refine ⟨fun l Hc => ∃ a86 : List (List UInt8), Own Hc [oB z0 L0 S0, cellE 9 b1 (List.flatMap encS a86)] F ∧ (k46_2 x59 rec60 a86) = some r_, ?_, ?_⟩
      · obtain ⟨q90, h⟩ := ckS h
        refine ⟨q90, ?_⟩
        obtain ⟨q91, h⟩ := ckS h
        refine ⟨x21, rfl, q91, ?_⟩
        refine ⟨(x21 >>> Int.toNat x59), (1 : BitVec 32), rfl, rfl, ?_⟩
        refine ⟨fun w92 => ?_, fun w93 => ?_⟩
        · replace h := ifTd w92 h
          obtain ⟨r94, e95, h⟩ := bindS h
          refine c69 z2 x59 r94 e95 _ _ _ (fr0 hO) (fun H96 hO => ?_)
          replace hO := un0 hO
          refine ⟨r94, rfl, ?_⟩
          obtain ⟨x97, g98, h⟩ := getS h
          refine ⟨_, _, rfl, g98.1, g98.2.1, rfl, ?_⟩
          refine ⟨x97, ((hO.arr (.tail _ (.head _))).rd (i := Int.toNat x59) (j := 0) lenStr g98.2.2 (by decide) (zo0 _) rfl), ?_⟩
          replace hO := open_B (pu0 hO)
          refine ⟨(some ⟨L0.pool, 0, none⟩), 288, 288, ((hO.blk (.head _)).rdv rfl), ?_⟩
          obtain ⟨q99, h⟩ := ckS h
          refine ⟨_, .inl ⟨q99, rfl⟩, ?_⟩
          obtain ⟨x100, g101, h⟩ := getS h
          refine ⟨_, _, rfl, g101.1, g101.2.1, rfl, ?_⟩
          refine ⟨x100, ((hO.arr (.tail _ (.tail _ (.head _)))).rd (i := Int.toNat (r94 + z3)) (j := 0) lenStr g101.2.2 (by decide) (zo0 _) rfl), ?_⟩
          refine ⟨fun w102 => ?_, fun w103 => ?_⟩
          · replace w102 := bnotT w102
            replace h := ifFb w102 h
            replace hO := close_B L0 S0 (hO)
            obtain rfl := Option.some.inj h
            exact hR _ hO

          · replace w103 := bnotF w103
            replace h := ifTb w103 h
            refine ⟨(some ⟨L0.pool, 0, none⟩), 288, 288, ((hO.blk (.head _)).rdv rfl), ?_⟩
            obtain ⟨q104, h⟩ := ckS h
            refine ⟨_, .inl ⟨q104, rfl⟩, ?_⟩
            obtain ⟨q105, h⟩ := ckS h
            refine ⟨q105, ?_⟩
            obtain ⟨x106, g107, h⟩ := getS h
            refine ⟨_, _, rfl, g107.1, g107.2.1, rfl, ?_⟩
            refine ⟨x106, ((hO.arr (.tail _ (.tail _ (.head _)))).rd (i := Int.toNat ((r94 + (1 : Int)) - z3)) (j := 0) lenStr g107.2.2 (by decide) (zo0 _) rfl), ?_⟩
            refine ⟨_, _, rfl, g98.1, g98.2.1, rfl, ?_⟩
            refine ⟨((hO.arr (.tail _ (.tail _ (.tail _ (.tail _ (.tail _ (.tail _ (.head _)))))))).wr1 lenStr (i := Int.toNat x59) (j := 0) (getLt g98.2.2) (Nat.le_of_ble_eq_true rfl) (zo0 _)), ?_⟩
            intro H108 eH108
            replace hO := os6 (l' := List.flatMap encS (List.set a56 (Int.toNat x59) x106)) hO eH108 (flat_set1 lenStr (i := Int.toNat x59) (j := 0) g98.2.2 (by decide) (zo0 _) rfl)
            replace hO := close_B L0 S0 (hO)
            exact ⟨(List.set a56 (Int.toNat x59) x106), hO, h⟩


        · replace h := ifFd w93 h
          exact ⟨a56, hO, h⟩


      · clear hO h
        intro H87 u88  hJ
        obtain ⟨a86, hO, h⟩ := hJ
        replace h : (k46_2 x59 rec60 a86) = some r_ := h
        unfold k46_2 at h
        obtain ⟨q89, h⟩ := ckS h
        refine ⟨_, .inl ⟨q89, rfl⟩, ?_⟩
        subst hrec60
        exact lst_step hm61 ⟨a86, hO, h⟩


    · replace h := ifFd w63 h
      obtain rfl := Option.some.inj h
      exact hR _ hO




theorem c24 (n_ : Nat) (z0 : Nat) (L0 : BL) (S0 : BS) (r_ : Bool) (h : s24 n_ S0 = some r_) (F : List Ent) (H : Heap) (R : Value → Heap → Prop)
    (hO : Own H [oB z0 L0 S0] F)
    (hR : ∀ (H' : Heap) , Own H' [oB z0 L0 S0] F → R (.bool r_) H') :
    HCalls Tryz.prog 24 #[Value.pointer (some ⟨z0, 0, none⟩)] H R := by
  refine vc24 z0 H R ?_
  unfold s24 at h
  replace hO := open_B (pu0 hO)
  refine ⟨(some ⟨L0.pool, 0, none⟩), 288, 288, ((hO.blk (.head _)).rdv rfl), ?_⟩
  refine ⟨fun _ => ?_, fun c => (by simp [Int.add_zero] at c)⟩
  refine ⟨(some ⟨L0.turned, 0, none⟩), 6, 6, ((hO.blk (.head _)).rdv rfl), ?_⟩
  refine ⟨fun c => (by simp [Int.add_zero] at c), fun _ => ?_⟩
  refine ⟨(some ⟨L0.was, 0, none⟩), 24, 24, ((hO.blk (.head _)).rdv rfl), ?_⟩
  refine ⟨fun _ => ?_, fun c => (by simp [Int.add_zero] at c)⟩
  refine ⟨(some ⟨L0.out, 0, none⟩), 1056, 1056, ((hO.blk (.head _)).rdv rfl), ?_⟩
  refine ⟨fun c => (by simp [Int.add_zero] at c), fun _ => ?_⟩
  refine ⟨S0.base, ((hO.blk (.head _)).rdv rfl), ?_⟩
  refine ⟨fun w22 => ?_, fun w21 => ?_⟩
  · replace h := ifFd w22 h
    refine ⟨S0.base, ((hO.blk (.head _)).rdv rfl), ?_⟩
    refine ⟨fun w24 => ?_, fun w23 => ?_⟩
    · replace h := ifFd w24 h
      refine ⟨S0.undos, ((hO.blk (.head _)).rdv rfl), ?_⟩
      refine ⟨fun w26 => ?_, fun w25 => ?_⟩
      · replace h := ifFd w26 h
        refine ⟨S0.redos, ((hO.blk (.head _)).rdv rfl), ?_⟩
        refine ⟨fun w28 => ?_, fun w27 => ?_⟩
        · replace h := ifFd w28 h
          refine ⟨S0.undos, ((hO.blk (.head _)).rdv rfl), ?_⟩
          refine ⟨S0.redos, ((hO.blk (.head _)).rdv rfl), ?_⟩
          obtain ⟨q29, h⟩ := ckS h
          refine ⟨_, .inl ⟨q29, rfl⟩, ?_⟩
          refine ⟨fun w30 => ?_, fun w31 => ?_⟩
          · replace h := ifTd w30 h
            replace hO := close_B L0 S0 (hO)
            obtain rfl := Option.some.inj h
            exact hR _ hO

          · replace h := ifFd w31 h
            replace hO := close_B L0 S0 (hO)
            refine ⟨fun l Hc => ∃ m : Nat, Own Hc [oB z0 L0 S0] F ∧ (l24_2 n_ S0 m (asI (nth l 0))) = some r_, fun l Hc => Classical.epsilon <| lsp fun m => Own Hc [oB z0 L0 S0] F ∧ (l24_2 n_ S0 m (asI (nth l 0))) = some r_, ?_, ?_⟩
            · exact ⟨n_, hO, h⟩
            · clear hO h
              intro H32 u33 x34 hJ
              obtain ⟨m127, hm36, hJ⟩ := lst_get hJ
              obtain ⟨hO, h⟩ := hJ
              rcases m127 with _ | k126
              · exact absurd h (by simp [l24_2, asI, asB, asC, asS])
              obtain ⟨rec35, hrec35, h⟩ : ∃ f_, f_ = l24_2 n_ S0 k126 ∧ (l24_2_st n_ S0 f_ x34) = some r_ := ⟨_, rfl, h⟩
              unfold l24_2_st at h
              refine ⟨fun w37 => ?_, fun w38 => ?_⟩
              · replace h := ifTd w37 h
                obtain ⟨r39, e40, h⟩ := bindS h
                refine c43 z0 L0 S0 x34 r39 e40 _ _ _ (fr1 hO) (fun H41 hO => ?_)
                replace hO := un1 hO
                refine ⟨r39, rfl, ?_⟩
                replace hO := open_B (pu0 hO)
                refine ⟨S0.undos, ((hO.blk (.head _)).rdv rfl), ?_⟩
                refine ⟨S0.redos, ((hO.blk (.head _)).rdv rfl), ?_⟩
                refine ⟨_, .inl ⟨q29, rfl⟩, ?_⟩
                replace hO := close_B L0 S0 (hO)
                obtain ⟨r42, e43, h⟩ := bindS h
                refine c44 n_ z0 L0 S0 r39 (decide (x34 < (S0.undos + S0.redos))) r42 e43 _ _ _ (fr1 hO) (fun H44 hO => ?_)
                replace hO := un1 hO
                refine ⟨r42, rfl, ?_⟩
                refine ⟨fun w45 => ?_, fun w46 => ?_⟩
                · replace w45 := bnotT w45
                  replace h := ifFb w45 h
                  obtain rfl := Option.some.inj h
                  exact hR _ hO

                · replace w46 := bnotF w46
                  replace h := ifTb w46 h
                  obtain ⟨q47, h⟩ := ckS h
                  refine ⟨_, .inl ⟨q47, rfl⟩, ?_⟩
                  subst hrec35
                  exact lst_step hm36 ⟨hO, h⟩


              · replace h := ifFd w38 h
                refine ⟨rfl, (by decide), (by decide), rfl, ?_⟩
                intro H48 eH48
                replace hO := own_new (l := List.flatMap encS (List.replicate 24 ([] : List UInt8))) hO eH48 (z9 _)
                obtain ⟨r49, e50, h⟩ := bindS h
                refine c45 n_ z0 L0 S0 H32.size (List.replicate 24 ([] : List UInt8)) 24 24 r49 e50 _ _ _ (fr2 (pu1 (pu0 hO))) (fun H51 hO => ?_)
                replace hO := un2 hO
                replace hO := open_B (pu0 hO)
                refine ⟨S0.undos, ((hO.blk (.head _)).rdv rfl), ?_⟩
                obtain ⟨q52, h⟩ := ckS h
                refine ⟨q52, ?_⟩
                replace hO := close_B L0 S0 (hO)
                refine ⟨fun l Hc => ∃ m : Nat, ∃ a69 : List (List UInt8), Own Hc [oB z0 L0 S0, cellE 9 H32.size (List.flatMap encS a69)] F ∧ (l24_1 n_ S0 m (asI (nth l 0)) a69) = some r_, fun l Hc => Classical.epsilon <| lsp fun m => ∃ a69 : List (List UInt8), Own Hc [oB z0 L0 S0, cellE 9 H32.size (List.flatMap encS a69)] F ∧ (l24_1 n_ S0 m (asI (nth l 0)) a69) = some r_, ?_, ?_⟩
                · exact ⟨n_, r49, hO, h⟩
                · clear hO h
                  intro H70 u71 x72 hJ
                  obtain ⟨m125, hm74, hJ⟩ := lst_get hJ
                  obtain ⟨a69, hO, h⟩ := hJ
                  rcases m125 with _ | k124
                  · exact absurd h (by simp [l24_1, asI, asB, asC, asS])
                  obtain ⟨rec73, hrec73, h⟩ : ∃ f_, f_ = l24_1 n_ S0 k124 ∧ (l24_1_st n_ S0 f_ x72 a69) = some r_ := ⟨_, rfl, h⟩
                  unfold l24_1_st at h
                  refine ⟨fun w75 => ?_, fun w76 => ?_⟩
                  · replace h := ifTd w75 h
                    obtain ⟨r77, e78, h⟩ := bindS h
                    refine c43 z0 L0 S0 x72 r77 e78 _ _ _ (fr1 hO) (fun H79 hO => ?_)
                    replace hO := un1 hO
                    refine ⟨r77, rfl, ?_⟩
                    obtain ⟨r80, e81, h⟩ := bindS h
                    refine c46 n_ z0 L0 S0 H32.size a69 24 24 r77 (1 : Int) r80 e81 _ _ _ (fr2 hO) (fun H82 hO => ?_)
                    replace hO := un2 hO
                    refine ⟨r80.2, rfl, ?_⟩
                    refine ⟨fun w83 => ?_, fun w84 => ?_⟩
                    · replace w83 := bnotT w83
                      replace h := ifFb w83 h
                      obtain rfl := Option.some.inj h
                      exact hR _ (dr1 (hO))

                    · replace w84 := bnotF w84
                      replace h := ifTb w84 h
                      obtain ⟨q85, h⟩ := ckS h
                      refine ⟨q85, ?_⟩
                      subst hrec73
                      exact lst_step hm74 ⟨r80.1, hO, h⟩


                  · replace h := ifFd w76 h
                    obtain ⟨r86, e87, h⟩ := bindS h
                    refine c45 n_ z0 L0 S0 H32.size a69 24 24 r86 e87 _ _ _ (fr2 hO) (fun H88 hO => ?_)
                    replace hO := un2 hO
                    replace hO := open_B (pu0 hO)
                    refine ⟨S0.undos, ((hO.blk (.head _)).rdv rfl), ?_⟩
                    replace hO := close_B L0 S0 (hO)
                    refine ⟨fun l Hc => ∃ m : Nat, ∃ a105 : List (List UInt8), Own Hc [oB z0 L0 S0, cellE 9 H32.size (List.flatMap encS a105)] F ∧ (l24_0 n_ S0 m (asI (nth l 0)) a105) = some r_, fun l Hc => Classical.epsilon <| lsp fun m => ∃ a105 : List (List UInt8), Own Hc [oB z0 L0 S0, cellE 9 H32.size (List.flatMap encS a105)] F ∧ (l24_0 n_ S0 m (asI (nth l 0)) a105) = some r_, ?_, ?_⟩
                    · exact ⟨n_, r86, hO, h⟩
                    · clear hO h
                      intro H106 u107 x108 hJ
                      obtain ⟨m123, hm110, hJ⟩ := lst_get hJ
                      obtain ⟨a105, hO, h⟩ := hJ
                      rcases m123 with _ | k122
                      · exact absurd h (by simp [l24_0, asI, asB, asC, asS])
                      obtain ⟨rec109, hrec109, h⟩ : ∃ f_, f_ = l24_0 n_ S0 k122 ∧ (l24_0_st n_ S0 f_ x108 a105) = some r_ := ⟨_, rfl, h⟩
                      unfold l24_0_st at h
                      replace hO := open_B (pu0 hO)
                      refine ⟨S0.undos, ((hO.blk (.head _)).rdv rfl), ?_⟩
                      refine ⟨S0.redos, ((hO.blk (.head _)).rdv rfl), ?_⟩
                      refine ⟨_, .inl ⟨q29, rfl⟩, ?_⟩
                      refine ⟨fun w111 => ?_, fun w112 => ?_⟩
                      · replace h := ifTd w111 h
                        replace hO := close_B L0 S0 (hO)
                        obtain ⟨r113, e114, h⟩ := bindS h
                        refine c43 z0 L0 S0 x108 r113 e114 _ _ _ (fr1 hO) (fun H115 hO => ?_)
                        replace hO := un1 hO
                        refine ⟨r113, rfl, ?_⟩
                        obtain ⟨r116, e117, h⟩ := bindS h
                        refine c46 n_ z0 L0 S0 H32.size a105 24 24 r113 (0 : Int) r116 e117 _ _ _ (fr2 hO) (fun H118 hO => ?_)
                        replace hO := un2 hO
                        refine ⟨r116.2, rfl, ?_⟩
                        refine ⟨fun w119 => ?_, fun w120 => ?_⟩
                        · replace w119 := bnotT w119
                          replace h := ifFb w119 h
                          obtain rfl := Option.some.inj h
                          exact hR _ (dr1 (hO))

                        · replace w120 := bnotF w120
                          replace h := ifTb w120 h
                          obtain ⟨q121, h⟩ := ckS h
                          refine ⟨_, .inl ⟨q121, rfl⟩, ?_⟩
                          subst hrec109
                          exact lst_step hm110 ⟨r116.1, hO, h⟩


                      · replace h := ifFd w112 h
                        replace hO := close_B L0 S0 (hO)
                        obtain rfl := Option.some.inj h
                        exact hR _ (dr1 (hO))








        · replace h := ifTd w27 h
          replace hO := close_B L0 S0 (hO)
          obtain rfl := Option.some.inj h
          exact hR _ hO


      · replace h := ifTd w25 h
        replace hO := close_B L0 S0 (hO)
        obtain rfl := Option.some.inj h
        exact hR _ hO


    · replace h := ifTd w23 h
      replace hO := close_B L0 S0 (hO)
      obtain rfl := Option.some.inj h
      exact hR _ hO


  · replace h := ifTd w21 h
    replace hO := close_B L0 S0 (hO)
    obtain rfl := Option.some.inj h
    exact hR _ hO



theorem c10 (n_ : Nat) (z0 : Nat) (L0 : BL) (S0 : BS) (z1 : Nat) (L1 : BML) (S1 : BMS) (z2 : Nat) (L2 : DL) (S2 : DS) (r_ : BS × Bool) (h : s10 n_ S0 S1 S2 = some r_) (F : List Ent) (H : Heap) (R : Value → Heap → Prop)
    (hO : Own H [oB z0 L0 S0, oBM z1 L1 S1, oD z2 L2 S2] F)
    (hR : ∀ (H' : Heap) , Own H' [oB z0 L0 r_.1, oBM z1 L1 S1, oD z2 L2 S2] F → R (.bool r_.2) H') :
    HCalls Tryz.prog 10 #[Value.pointer (some ⟨z0, 0, none⟩), Value.pointer (some ⟨z1, 0, none⟩), Value.pointer (some ⟨z2, 0, none⟩)] H R := by
  refine vc10 z0 z1 z2 H R ?_
  unfold s10 at h
  refine ⟨fun l Hc => ∃ m : Nat, Own Hc [oB z0 L0 S0, oBM z1 L1 S1, oD z2 L2 S2] F ∧ (l10_0 n_ S0 S1 S2 m (asI (nth l 0))) = some r_, fun l Hc => Classical.epsilon <| lsp fun m => Own Hc [oB z0 L0 S0, oBM z1 L1 S1, oD z2 L2 S2] F ∧ (l10_0 n_ S0 S1 S2 m (asI (nth l 0))) = some r_, ?_, ?_⟩
  · exact ⟨n_, hO, h⟩
  · clear hO h
    intro H21 u22 x23 hJ
    obtain ⟨m54, hm25, hJ⟩ := lst_get hJ
    obtain ⟨hO, h⟩ := hJ
    rcases m54 with _ | k53
    · exact absurd h (by simp [l10_0, asI, asB, asC, asS])
    obtain ⟨rec24, hrec24, h⟩ : ∃ f_, f_ = l10_0 n_ S0 S1 S2 k53 ∧ (l10_0_st n_ S0 S1 S2 f_ x23) = some r_ := ⟨_, rfl, h⟩
    unfold l10_0_st at h
    refine ⟨fun w26 => ?_, fun w27 => ?_⟩
    · replace h := ifTd w26 h
      obtain ⟨r28, e29, h⟩ := bindS h
      refine c19 z0 L0 S0 z1 L1 S1 x23 r28 e29 _ _ _ (fr2 hO) (fun H30 hO => ?_)
      replace hO := un2 hO
      refine ⟨r28, rfl, ?_⟩
      refine ⟨fun w31 => ?_, fun w32 => ?_⟩
      · replace w31 := bnotT w31
        replace h := ifFb w31 h
        obtain rfl := Option.some.inj h
        exact hR _ hO

      · replace w32 := bnotF w32
        replace h := ifTb w32 h
        obtain ⟨r33, e34, h⟩ := bindS h
        refine c20 z0 L0 S0 z1 L1 S1 x23 r33 e34 _ _ _ (fr2 hO) (fun H35 hO => ?_)
        replace hO := un2 hO
        refine ⟨r33, rfl, ?_⟩
        refine ⟨fun w36 => ?_, fun w37 => ?_⟩
        · replace w36 := bnotT w36
          replace h := ifFb w36 h
          obtain rfl := Option.some.inj h
          exact hR _ hO

        · replace w37 := bnotF w37
          replace h := ifTb w37 h
          obtain ⟨q38, h⟩ := ckS h
          refine ⟨_, .inl ⟨q38, rfl⟩, ?_⟩
          subst hrec24
          exact lst_step hm25 ⟨hO, h⟩



    · replace h := ifFd w27 h
      refine c21 z0 L0 S0 z1 L1 S1 z2 L2 S2 _ rfl _ _ _ (fr3 hO) (fun H39 hO => ?_)
      replace hO := un3 hO
      refine ⟨(s21 S0 S1 S2), rfl, ?_⟩
      refine ⟨fun w40 => ?_, fun w41 => ?_⟩
      · replace w40 := bnotT w40
        replace h := ifFb w40 h
        obtain rfl := Option.some.inj h
        exact hR _ hO

      · replace w41 := bnotF w41
        replace h := ifTb w41 h
        refine c22 z0 L0 S0 z1 L1 S1 z2 L2 S2 _ rfl _ _ _ (fr3 hO) (fun H42 hO => ?_)
        replace hO := un3 hO
        refine ⟨(s22 S0 S1 S2), rfl, ?_⟩
        refine ⟨fun w43 => ?_, fun w44 => ?_⟩
        · replace w43 := bnotT w43
          replace h := ifFb w43 h
          obtain rfl := Option.some.inj h
          exact hR _ hO

        · replace w44 := bnotF w44
          replace h := ifTb w44 h
          obtain ⟨r45, e46, h⟩ := bindS h
          refine c23 n_ z0 L0 S0 z1 L1 S1 r45 e46 _ _ _ (fr2 hO) (fun H47 hO => ?_)
          replace hO := un2 hO
          refine ⟨r45.2.1, r45.2.2, rfl, ?_⟩
          refine ⟨fun w48 => ?_, fun w49 => ?_⟩
          · replace w48 := bnotT w48
            replace h := ifFb w48 h
            obtain rfl := Option.some.inj h
            exact hR _ hO

          · replace w49 := bnotF w49
            replace h := ifTb w49 h
            obtain ⟨r50, e51, h⟩ := bindS h
            refine c24 n_ z0 L0 r45.1 r50 e51 _ _ _ (fr1 hO) (fun H52 hO => ?_)
            replace hO := un1 hO
            refine ⟨r50, rfl, ?_⟩
            obtain rfl := Option.some.inj h
            exact hR _ hO







theorem c25 (z0 : List UInt8) (z1 : List UInt8) (z2 : Int) (r_ : List UInt8) (h : s25 z0 z1 z2 = some r_) (F : List Ent) (H : Heap) (R : Value → Heap → Prop)
    (hO : Own H [] F)
    (hR : ∀ (H' : Heap) , Own H' [] F → R (str r_) H') :
    HCalls Tryz.prog 25 #[str z0, str z1, I z2] H R := by
  refine vc25 z0 z1 z2 H R ?_
  unfold s25 at h
  obtain ⟨q21, h⟩ := ckS h
  refine ⟨_, .inl ⟨q21, rfl⟩, ?_⟩
  obtain ⟨q22, h⟩ := ckS h
  refine ⟨q22, ?_⟩
  refine ⟨fun w23 => ?_, fun w24 => ?_⟩
  · replace h := ifTd w23 h
    obtain rfl := Option.some.inj h
    exact hR _ hO

  · replace h := ifFd w24 h
    refine ⟨fun l Hc => Own Hc [] F ∧ (k25_0 z0 (asS (nth l 0))) = some r_, ?_, ?_⟩
    · refine ⟨fun w29 => ?_, fun w30 => ?_⟩
      · replace h := ifTd w29 h
        obtain ⟨q31, h⟩ := ckS h
        refine ⟨q31.1, q31.2, ?_⟩
        exact ⟨hO, h⟩

      · replace h := ifFd w30 h
        exact ⟨hO, h⟩


    · clear hO h
      intro H25 u26 x27 hJ
      obtain ⟨hO, h⟩ := hJ
      replace h : (k25_0 z0 x27) = some r_ := h
      unfold k25_0 at h
      obtain ⟨q28, h⟩ := ckS h
      refine ⟨q28, ?_⟩
      obtain rfl := Option.some.inj h
      exact hR _ hO




theorem c26 (z0 : List UInt8) (z1 : List UInt8) (z2 : Int) (r_ : List UInt8) (h : s26 z0 z1 z2 = some r_) (F : List Ent) (H : Heap) (R : Value → Heap → Prop)
    (hO : Own H [] F)
    (hR : ∀ (H' : Heap) , Own H' [] F → R (str r_) H') :
    HCalls Tryz.prog 26 #[str z0, str z1, I z2] H R := by
  refine vc26 z0 z1 z2 H R ?_
  unfold s26 at h
  refine ⟨fun w21 => ?_, fun w22 => ?_⟩
  · replace h := ifTb w21 h
    obtain rfl := Option.some.inj h
    exact hR _ hO

  · replace h := ifFb w22 h
    obtain ⟨r23, e24, h⟩ := bindS h
    refine c25 z0 z1 z2 r23 e24 _ _ _ (fr0 hO) (fun H25 hO => ?_)
    replace hO := un0 hO
    refine ⟨r23, rfl, ?_⟩
    obtain rfl := Option.some.inj h
    exact hR _ hO



theorem c47 (n_ : Nat) (z0 : Nat) (L0 : BML) (S0 : BMS) (r_ : List (List UInt8)) (h : s47 n_ S0 = some r_) (F : List Ent) (H : Heap) (R : Value → Heap → Prop)
    (hO : Own H [oBM z0 L0 S0] F)
    (hR : ∀ (H' : Heap) (b_0 : Nat), Own H' [oBM z0 L0 S0, cellE 9 b_0 (List.flatMap encS r_)] F → R (.slice (some ⟨b_0, 0, none⟩) 24 24) H') :
    HCalls Tryz.prog 47 #[Value.pointer (some ⟨z0, 0, none⟩)] H R := by
  refine vc47 z0 H R ?_
  unfold s47 at h
  refine ⟨rfl, (by decide), (by decide), rfl, ?_⟩
  intro H21 eH21
  replace hO := own_new (l := List.flatMap encS (List.replicate 24 ([] : List UInt8))) hO eH21 (z9 _)
  refine ⟨fun l Hc => ∃ m : Nat, ∃ a36 : List (List UInt8), Own Hc [cellE 9 H.size (List.flatMap encS a36), oBM z0 L0 S0] F ∧ (l47_0 n_ S0 m (asI (nth l 0)) a36) = some r_, fun l Hc => Classical.epsilon <| lsp fun m => ∃ a36 : List (List UInt8), Own Hc [cellE 9 H.size (List.flatMap encS a36), oBM z0 L0 S0] F ∧ (l47_0 n_ S0 m (asI (nth l 0)) a36) = some r_, ?_, ?_⟩
  · exact ⟨n_, (List.replicate 24 ([] : List UInt8)), hO, h⟩
  · clear hO h
    intro H37 u38 x39 hJ
    obtain ⟨m52, hm41, hJ⟩ := lst_get hJ
    obtain ⟨a36, hO, h⟩ := hJ
    rcases m52 with _ | k51
    · exact absurd h (by simp [l47_0, asI, asB, asC, asS])
    obtain ⟨rec40, hrec40, h⟩ : ∃ f_, f_ = l47_0 n_ S0 k51 ∧ (l47_0_st n_ S0 f_ x39 a36) = some r_ := ⟨_, rfl, h⟩
    unfold l47_0_st at h
    refine ⟨fun w42 => ?_, fun w43 => ?_⟩
    · replace h := ifTd w42 h
      obtain ⟨r44, e45, h⟩ := bindS h
      refine c34 z0 L0 S0 x39 r44 e45 _ _ _ (fr1 (pu1 hO)) (fun H46 hO => ?_)
      replace hO := un1 hO
      refine ⟨r44, rfl, ?_⟩
      obtain ⟨x47, g48, h⟩ := getS h
      refine ⟨_, _, rfl, g48.1, g48.2.1, rfl, ?_⟩
      refine ⟨((hO.arr (.tail _ (.head _))).wr1 lenStr (i := Int.toNat x39) (j := 0) (getLt g48.2.2) (Nat.le_of_ble_eq_true rfl) (zo0 _)), ?_⟩
      intro H49 eH49
      replace hO := os1 (l' := List.flatMap encS (List.set a36 (Int.toNat x39) r44)) hO eH49 (flat_set1 lenStr (i := Int.toNat x39) (j := 0) g48.2.2 (by decide) (zo0 _) rfl)
      obtain ⟨q50, h⟩ := ckS h
      refine ⟨_, .inl ⟨q50, rfl⟩, ?_⟩
      replace hO := pu1 (pu0 hO)
      subst hrec40
      exact lst_step hm41 ⟨(List.set a36 (Int.toNat x39) r44), hO, h⟩

    · replace h := ifFd w43 h
      obtain rfl := Option.some.inj h
      exact hR _ H.size (pu1 (pu0 hO))




theorem c70 (n_ : Nat) (z0 : Nat) (L0 : BL) (S0 : BS) (r_ : BS) (h : s70 n_ S0 = some r_) (F : List Ent) (H : Heap) (R : Value → Heap → Prop)
    (hO : Own H [oB z0 L0 S0] F)
    (hR : ∀ (H' : Heap) , Own H' [oB z0 L0 r_] F → R (.tuple #[]) H') :
    HCalls Tryz.prog 70 #[Value.pointer (some ⟨z0, 0, none⟩)] H R := by
  refine vc70 z0 H R ?_
  unfold s70 at h
  refine ⟨fun l Hc => ∃ m : Nat, ∃ S37 : BS, Own Hc [oB z0 L0 S37] F ∧ (l70_0 n_ m (asI (nth l 0)) S37) = some r_, fun l Hc => Classical.epsilon <| lsp fun m => ∃ S37 : BS, Own Hc [oB z0 L0 S37] F ∧ (l70_0 n_ m (asI (nth l 0)) S37) = some r_, ?_, ?_⟩
  · exact ⟨n_, S0, hO, h⟩
  · clear hO h
    intro H38 u39 x40 hJ
    obtain ⟨m58, hm42, hJ⟩ := lst_get hJ
    obtain ⟨S37, hO, h⟩ := hJ
    rcases m58 with _ | k57
    · exact absurd h (by simp [l70_0, asI, asB, asC, asS])
    obtain ⟨rec41, hrec41, h⟩ : ∃ f_, f_ = l70_0 n_ k57 ∧ (l70_0_st n_ f_ x40 S37) = some r_ := ⟨_, rfl, h⟩
    unfold l70_0_st at h
    refine ⟨fun w43 => ?_, fun w44 => ?_⟩
    · replace h := ifTd w43 h
      replace hO := open_B (pu0 hO)
      refine ⟨L0.e, ((hO.blk (.head _)).rdv rfl), ?_⟩
      obtain ⟨r45, e46, h⟩ := bindS h
      obtain ⟨x48, g49, h⟩ := getS h
      refine ⟨?_, ?_⟩
      · refine ⟨(some ⟨L0.was, 0, none⟩), 24, 24, ((hO.blk (.head _)).rdv rfl), ?_⟩
        refine c64 L0.e L0.el S37.e x40 r45 e46 _ _ _ (fr1 (pu1 hO)) (fun H51 hO => ?_)
        replace hO := un1 hO
        refine ⟨r45, rfl, ?_⟩
        refine ⟨_, _, rfl, g49.1, g49.2.1, rfl, ?_⟩
        refine ⟨((hO.arr (.tail _ (.tail _ (.tail _ (.tail _ (.head _)))))).wr1 lenStr (i := Int.toNat x40) (j := 0) (getLt g49.2.2) (Nat.le_of_ble_eq_true rfl) (zo0 _)), ?_⟩
        intro H52 eH52
        replace hO := os4 (l' := List.flatMap encS (List.set S37.was (Int.toNat x40) r45)) hO eH52 (flat_set1 lenStr (i := Int.toNat x40) (j := 0) g49.2.2 (by decide) (zo0 _) rfl)
        obtain ⟨q53, h⟩ := ckS h
        refine ⟨_, .inl ⟨q53, rfl⟩, ?_⟩
        replace hO := close_B L0 ({ S37 with was := (List.set S37.was (Int.toNat x40) r45) }) (pu5 (pu4 (pu5 (pu5 (pu5 (pu5 hO))))))
        subst hrec41
        exact lst_step hm42 ⟨({ S37 with was := (List.set S37.was (Int.toNat x40) r45) }), hO, h⟩

      · refine c64 L0.e L0.el S37.e x40 r45 e46 _ _ _ (fr1 (pu1 hO)) (fun H54 hO => ?_)
        replace hO := un1 hO
        refine ⟨r45, rfl, ?_⟩
        refine ⟨(some ⟨L0.was, 0, none⟩), 24, 24, ((hO.blk (.tail _ (.head _))).rdv rfl), ?_⟩
        refine ⟨_, _, rfl, g49.1, g49.2.1, rfl, ?_⟩
        refine ⟨((hO.arr (.tail _ (.tail _ (.tail _ (.tail _ (.head _)))))).wr1 lenStr (i := Int.toNat x40) (j := 0) (getLt g49.2.2) (Nat.le_of_ble_eq_true rfl) (zo0 _)), ?_⟩
        intro H55 eH55
        replace hO := os4 (l' := List.flatMap encS (List.set S37.was (Int.toNat x40) r45)) hO eH55 (flat_set1 lenStr (i := Int.toNat x40) (j := 0) g49.2.2 (by decide) (zo0 _) rfl)
        obtain ⟨q56, h⟩ := ckS h
        refine ⟨_, .inl ⟨q56, rfl⟩, ?_⟩
        replace hO := close_B L0 ({ S37 with was := (List.set S37.was (Int.toNat x40) r45) }) (pu5 (pu4 (pu5 (pu5 (pu5 (pu5 hO))))))
        subst hrec41
        exact lst_step hm42 ⟨({ S37 with was := (List.set S37.was (Int.toNat x40) r45) }), hO, h⟩


    · replace h := ifFd w44 h
      obtain rfl := Option.some.inj h
      exact hR _ hO




theorem c92 (z0 : Int) (r_ : BitVec 32) (h : s92 z0 = r_) (F : List Ent) (H : Heap) (R : Value → Heap → Prop)
    (hO : Own H [] F)
    (hR : ∀ (H' : Heap) , Own H' [] F → R (.int .u32 (r_.toNat : Int)) H') :
    HCalls Tryz.prog 92 #[I z0] H R := by
  refine vc92 z0 H R ?_
  unfold s92 at h
  refine ⟨fun w22 => ?_, fun w21 => ?_⟩
  · replace h := ifFd w22 h
    refine ⟨fun w23 => ?_, fun w24 => ?_⟩
    · replace h := ifTd w23 h
      subst h
      exact hR _ hO

    · replace h := ifFd w24 h
      refine ⟨(by simp only [decide_eq_true_eq, decide_eq_false_iff_not] at *; omega), ?_⟩
      refine ⟨(1 : BitVec 32), rfl, (by simp only [decide_eq_true_eq, decide_eq_false_iff_not] at *; omega), ?_⟩
      subst h
      exact hR _ hO


  · replace h := ifTd w21 h
    subst h
    exact hR _ hO



theorem flat_take {α : Type} {enc : α → List Value} {sz : Nat} (hs : ∀ x, (enc x).length = sz) : ∀ (l : List α) (n : Nat), (l.take n).flatMap enc = (l.flatMap enc).take (n * sz)
  | [], n => by simp
  | x :: l, 0 => by simp
  | x :: l, n + 1 => by
    rw [List.take_succ_cons, List.flatMap_cons, List.flatMap_cons, flat_take hs l n, List.take_append, hs]
    rw [List.take_of_length_le (l := enc x) (by rw [hs, Nat.succ_mul]; omega), show (n + 1) * sz - sz = n * sz by rw [Nat.succ_mul]; omega]
theorem putRow_full : ∀ (vs l : List Value) (o : Nat), l.length = o + vs.length → putRow l o vs = l.take o ++ vs := by
  intro vs l o h
  apply List.ext_getElem?
  intro j
  rw [putRow_get _ _ _ (by omega)]
  by_cases h1 : o ≤ j ∧ j < o + vs.length
  · rw [if_pos h1, List.getElem?_append_right (by simp; omega)]
    simp only [List.length_take]
    congr 1
    omega
  · rw [if_neg h1]
    by_cases h2 : j < o
    · rw [List.getElem?_append_left (by simp; omega), List.getElem?_take, if_pos h2]
    · rw [List.getElem?_eq_none (by omega), List.getElem?_eq_none (by simp; omega)]
theorem okNode (l : List NodeT) : (l.flatMap encNode).all okCell = true := by
  induction l with
  | nil => rfl
  | cons x l ih => rw [List.flatMap_cons, List.all_append, ih]; rfl
theorem c121 (b0 : Nat) (a0 : List NodeT) (m0 c0 : Nat) (r_ : List NodeT) (h : s121 a0 m0 = some r_) (F : List Ent) (H : Heap) (R : Value → Heap → Prop)
    (hO : Own H [cellE 153 b0 (List.flatMap encNode a0)] F)
    (hR : ∀ (H' : Heap) (a_0 : Option Addr) (m_0 c_0 : Nat) (C_0 : List Ent) (_ : SH 153 encNode r_ a_0 m_0 C_0), Own H' [cellE 153 b0 (List.flatMap encNode a0), C_0] F → R (.slice a_0 m_0 c_0) H') :
    HCalls Tryz.prog 121 #[Value.slice (some ⟨b0, 0, none⟩) m0 c0] H R := by
  refine vc121 (some ⟨b0, 0, none⟩) m0 c0 H R ?_
  unfold s121 at h
  refine ⟨fun w => ?_, fun w => ?_⟩
  · have w := of_decide_eq_true w
    rw [if_pos (by omega)] at h
    obtain rfl := Option.some.inj h
    exact hR _ none 0 0 [] shNil (pb1 (own_nil hO))
  · have w := of_decide_eq_false w
    rw [if_neg (by omega)] at h
    obtain ⟨q, h⟩ := ckS h
    obtain rfl := Option.some.inj h
    refine ⟨rfl, by omega, by omega, rfl, ?_⟩
    intro H1 e1
    have hO := own_new (l := List.flatMap encNode (List.replicate m0 dNode)) hO e1 (by rw [Int.toNat_natCast]; exact z153 _)
    have hf := flat_take lenNode a0 m0
    have hlen : (List.flatMap encNode (a0.take m0)).length = m0 * 13 := by rw [flat_length lenNode, List.length_take, Nat.min_eq_left q.1]
    have hrep : (List.flatMap encNode (List.replicate m0 dNode)).length = m0 * 13 := by rw [flat_length lenNode, List.length_replicate]
    refine ⟨rfl, List.flatMap encNode (a0.take m0), by rw [hlen, Int.toNat_natCast]; show _ = min m0 m0 * 13; rw [Nat.min_self], .inr ⟨b0, 0, rfl, (hO.blk (.tail _ (.head _))).row fun j hj => ?_⟩, _, _, rfl, (hO.blk (.head _)).wr (by rw [hlen, hrep]; omega), okNode _, ?_⟩
    · rw [Nat.zero_add, hf, List.getElem?_take, if_pos (by omega)]
    · intro H5 e5
      have hO := oz0 (l' := List.flatMap encNode (a0.take m0)) hO e5 (by rw [putRow_full _ _ _ (by rw [hlen, hrep]; omega)]; simp)
      exact hR _ (some ⟨H.size, 0, none⟩) _ _ _ (shBlk (by rw [Int.toNat_natCast, List.length_take, Nat.min_eq_left q.1])) (pu1 hO)
theorem s121_app {a x : List NodeT} {m : Nat} {r : List NodeT} (h : s121 a m = some r) : s121 (a ++ x) m = some r := by
  unfold s121 at h ⊢
  split at h
  · rename_i h0; rw [if_pos h0]; exact h
  · rename_i h0
    rw [if_neg h0]
    obtain ⟨q, h⟩ := ckS h
    rw [ckT (by simp only [List.length_append]; omega), List.take_append_of_le_length q.1]
    exact h

theorem c163 (z0 : Int) (r_ : Bool) (h : s163 z0 = r_) (F : List Ent) (H : Heap) (R : Value → Heap → Prop)
    (hO : Own H [] F)
    (hR : ∀ (H' : Heap) , Own H' [] F → R (.bool r_) H') :
    HCalls Tryz.prog 163 #[Value.int .u8 z0] H R := by
  refine vc163 z0 H R ?_
  unfold s163 at h
  refine ⟨fun w21 => ?_, fun w22 => ?_⟩
  · replace h := ifTd w21 h
    subst h
    exact hR _ hO

  · replace h := ifFd w22 h
    subst h
    exact hR _ hO



theorem c164 (n_ : Nat) (z0 : List UInt8) (z1 : Int) (r_ : TokT) (h : s164 n_ z0 z1 = some r_) (F : List Ent) (H : Heap) (R : Value → Heap → Prop)
    (hO : Own H [] F)
    (hR : ∀ (H' : Heap) , Own H' [] F → R (.agg ⟨encTok r_⟩) H') :
    HCalls Tryz.prog 164 #[str z0, I z1] H R := by
  refine vc164 z0 z1 H R ?_
  unfold s164 at h
  intro H21 eH21
  replace hO := own_new (l := encTok (⟨(0 : Int), (0 : Int), (0 : Int), (0 : Int), (0 : Int), (⟨(0 : Int), (0 : Int), false, false⟩ : RefT)⟩ : TokT)) hO eH21 rfl
  intro H22 eH22
  replace hO := own_new (l := encTok (⟨(0 : Int), (0 : Int), (0 : Int), (0 : Int), (0 : Int), (⟨(0 : Int), (0 : Int), false, false⟩ : RefT)⟩ : TokT)) hO eH22 rfl
  refine ⟨(hO.blk (.head _)).wr (Nat.le_of_ble_eq_true rfl), ?_⟩
  intro H23 eH23
  replace hO := oz0 (l' := encTok (⟨(2 : Int), z1, z1, (1 : Int), (0 : Int), (⟨(0 : Int), (0 : Int), false, false⟩ : RefT)⟩ : TokT)) hO eH23 rfl
  refine ⟨fun l Hc => ∃ m : Nat, ∃ t38 : TokT, Own Hc [cellE 194 H21.size (encTok t38), cellE 194 H.size (encTok (⟨(0 : Int), (0 : Int), (0 : Int), (0 : Int), (0 : Int), (⟨(0 : Int), (0 : Int), false, false⟩ : RefT)⟩ : TokT))] F ∧ (l164_2 n_ z0 z1 m t38) = some r_, fun l Hc => Classical.epsilon <| lsp fun m => ∃ t38 : TokT, Own Hc [cellE 194 H21.size (encTok t38), cellE 194 H.size (encTok (⟨(0 : Int), (0 : Int), (0 : Int), (0 : Int), (0 : Int), (⟨(0 : Int), (0 : Int), false, false⟩ : RefT)⟩ : TokT))] F ∧ (l164_2 n_ z0 z1 m t38) = some r_, ?_, ?_⟩
  · exact ⟨n_, (⟨(2 : Int), z1, z1, (1 : Int), (0 : Int), (⟨(0 : Int), (0 : Int), false, false⟩ : RefT)⟩ : TokT), hO, h⟩
  · clear hO h
    intro H39 u40  hJ
    obtain ⟨m89, hm42, hJ⟩ := lst_get hJ
    obtain ⟨t38, hO, h⟩ := hJ
    rcases m89 with _ | k88
    · exact absurd h (by simp [l164_2, asI, asB, asC, asS])
    obtain ⟨rec41, hrec41, h⟩ : ∃ f_, f_ = l164_2 n_ z0 z1 k88 ∧ (l164_2_st n_ z0 z1 f_ t38) = some r_ := ⟨_, rfl, h⟩
    unfold l164_2_st at h
    refine ⟨t38.end_, ((hO.blk (.head _)).rdv rfl), ?_⟩
    refine ⟨fun w43 => ?_, fun w44 => ?_⟩
    · replace h := ifTd w43 h
      refine ⟨t38.end_, ((hO.blk (.head _)).rdv rfl), ?_⟩
      obtain ⟨q45, h⟩ := ckS h
      refine ⟨q45.1, q45.2, ?_⟩
      refine c163 ((List.getD z0 (Int.toNat t38.end_) 0).toNat : Int) _ rfl _ _ _ (fr0 hO) (fun H46 hO => ?_)
      replace hO := un0 hO
      refine ⟨(s163 ((List.getD z0 (Int.toNat t38.end_) 0).toNat : Int)), rfl, ?_⟩
      refine ⟨fun w47 => ?_, fun w48 => ?_⟩
      · replace h := ifTb w47 h
        refine ⟨fun l Hc => ∃ t61 : TokT, Own Hc [cellE 194 H21.size (encTok t61), cellE 194 H.size (encTok (⟨(0 : Int), (0 : Int), (0 : Int), (0 : Int), (0 : Int), (⟨(0 : Int), (0 : Int), false, false⟩ : RefT)⟩ : TokT))] F ∧ (k164_1 rec41 t61) = some r_, ?_, ?_⟩
        · refine ⟨t38.end_, ((hO.blk (.head _)).rdv rfl), ?_⟩
          obtain ⟨q66, h⟩ := ckS h
          refine ⟨q66, ?_⟩
          refine ⟨fun w67 => ?_, fun w68 => ?_⟩
          · replace h := ifTd w67 h
            refine ⟨t38.n, ((hO.blk (.head _)).rdv rfl), ?_⟩
            obtain ⟨q69, h⟩ := ckS h
            refine ⟨q69, ?_⟩
            refine ⟨t38.end_, ((hO.blk (.head _)).rdv rfl), ?_⟩
            refine ⟨q45.1, q45.2, ?_⟩
            obtain ⟨q70, h⟩ := ckS h
            refine ⟨q70, ?_⟩
            obtain ⟨q71, h⟩ := ckS h
            refine ⟨q71, ?_⟩
            obtain ⟨q72, h⟩ := ckS h
            refine ⟨_, .inl ⟨q72, rfl⟩, ?_⟩
            refine ⟨(hO.blk (.head _)).wr (Nat.le_of_ble_eq_true rfl), ?_⟩
            intro H73 eH73
            replace hO := os0 (l' := encTok ({ t38 with n := (t38.n * (10 : Int)) + (((List.getD z0 (Int.toNat t38.end_) 0).toNat : Int) - (48 : Int)) })) hO eH73 rfl
            exact ⟨({ t38 with n := (t38.n * (10 : Int)) + (((List.getD z0 (Int.toNat t38.end_) 0).toNat : Int) - (48 : Int)) }), hO, h⟩

          · replace h := ifFd w68 h
            exact ⟨t38, hO, h⟩


        · clear hO h
          intro H62 u63  hJ
          obtain ⟨t61, hO, h⟩ := hJ
          replace h : (k164_1 rec41 t61) = some r_ := h
          unfold k164_1 at h
          refine ⟨t61.end_, ((hO.blk (.head _)).rdv rfl), ?_⟩
          obtain ⟨q64, h⟩ := ckS h
          refine ⟨_, .inl ⟨q64, rfl⟩, ?_⟩
          refine ⟨(hO.blk (.head _)).wr (Nat.le_of_ble_eq_true rfl), ?_⟩
          intro H65 eH65
          replace hO := os0 (l' := encTok ({ t61 with end_ := t61.end_ + (1 : Int) })) hO eH65 rfl
          subst hrec41
          exact lst_step hm42 ⟨({ t61 with end_ := t61.end_ + (1 : Int) }), hO, h⟩


      · replace h := ifFb w48 h
        refine ⟨t38.end_, ((hO.blk (.head _)).rdv rfl), ?_⟩
        obtain ⟨q74, h⟩ := ckS h
        refine ⟨q74, ?_⟩
        refine ⟨fun w75 => ?_, fun w76 => ?_⟩
        · replace h := ifTd w75 h
          refine ⟨(hO.blk (.head _)).wr (Nat.le_of_ble_eq_true rfl), ?_⟩
          intro H77 eH77
          replace hO := os0 (l' := encTok ({ t38 with kind := (3 : Int) })) hO eH77 rfl
          refine ⟨(hO.blk (.head _)).wr (Nat.le_of_ble_eq_true rfl), ?_⟩
          intro H78 eH78
          replace hO := os0 (l' := encTok ({ t38 with kind := (3 : Int), n := (4 : Int) })) hO eH78 rfl
          refine ⟨{ t38 with kind := (3 : Int), n := (4 : Int) }, (hO.blk (.head _)).rowT rfl, ?_⟩
          refine ⟨(hO.blk (.tail _ (.head _))).wr (Nat.le_of_ble_eq_true rfl), ?_⟩
          intro H79 eH79
          replace hO := oz1 (l' := encTok ({ t38 with kind := (3 : Int), n := (4 : Int) })) hO eH79 rfl
          refine ⟨{ t38 with kind := (3 : Int), n := (4 : Int) }, (hO.blk (.tail _ (.head _))).rowT rfl, ?_⟩
          obtain rfl := Option.some.inj h
          exact hR _ (dr0 (dr0 (hO)))

        · replace h := ifFd w76 h
          refine ⟨t38, (hO.blk (.head _)).rowT rfl, ?_⟩
          refine ⟨(hO.blk (.tail _ (.head _))).wr (Nat.le_of_ble_eq_true rfl), ?_⟩
          intro H80 eH80
          replace hO := oz1 (l' := encTok t38) hO eH80 rfl
          refine ⟨t38, (hO.blk (.tail _ (.head _))).rowT rfl, ?_⟩
          obtain rfl := Option.some.inj h
          exact hR _ (dr0 (dr0 (hO)))



    · replace h := ifFd w44 h
      refine ⟨t38.end_, ((hO.blk (.head _)).rdv rfl), ?_⟩
      obtain ⟨q81, h⟩ := ckS h
      refine ⟨q81, ?_⟩
      refine ⟨fun w82 => ?_, fun w83 => ?_⟩
      · replace h := ifTd w82 h
        refine ⟨(hO.blk (.head _)).wr (Nat.le_of_ble_eq_true rfl), ?_⟩
        intro H84 eH84
        replace hO := os0 (l' := encTok ({ t38 with kind := (3 : Int) })) hO eH84 rfl
        refine ⟨(hO.blk (.head _)).wr (Nat.le_of_ble_eq_true rfl), ?_⟩
        intro H85 eH85
        replace hO := os0 (l' := encTok ({ t38 with kind := (3 : Int), n := (4 : Int) })) hO eH85 rfl
        refine ⟨{ t38 with kind := (3 : Int), n := (4 : Int) }, (hO.blk (.head _)).rowT rfl, ?_⟩
        refine ⟨(hO.blk (.tail _ (.head _))).wr (Nat.le_of_ble_eq_true rfl), ?_⟩
        intro H86 eH86
        replace hO := oz1 (l' := encTok ({ t38 with kind := (3 : Int), n := (4 : Int) })) hO eH86 rfl
        refine ⟨{ t38 with kind := (3 : Int), n := (4 : Int) }, (hO.blk (.tail _ (.head _))).rowT rfl, ?_⟩
        obtain rfl := Option.some.inj h
        exact hR _ (dr0 (dr0 (hO)))

      · replace h := ifFd w83 h
        refine ⟨t38, (hO.blk (.head _)).rowT rfl, ?_⟩
        refine ⟨(hO.blk (.tail _ (.head _))).wr (Nat.le_of_ble_eq_true rfl), ?_⟩
        intro H87 eH87
        replace hO := oz1 (l' := encTok t38) hO eH87 rfl
        refine ⟨t38, (hO.blk (.tail _ (.head _))).rowT rfl, ?_⟩
        obtain rfl := Option.some.inj h
        exact hR _ (dr0 (dr0 (hO)))





theorem c165 (z0 : Int) (r_ : Bool) (h : s165 z0 = r_) (F : List Ent) (H : Heap) (R : Value → Heap → Prop)
    (hO : Own H [] F)
    (hR : ∀ (H' : Heap) , Own H' [] F → R (.bool r_) H') :
    HCalls Tryz.prog 165 #[Value.int .u8 z0] H R := by
  refine vc165 z0 H R ?_
  unfold s165 at h
  refine ⟨fun w21 => ?_, fun w22 => ?_⟩
  · replace h := ifTd w21 h
    refine ⟨fun w24 => ?_, fun w23 => ?_⟩
    · replace h := ifFd w24 h
      refine ⟨fun w25 => ?_, fun w26 => ?_⟩
      · replace h := ifTd w25 h
        refine ⟨fun w28 => ?_, fun w27 => ?_⟩
        · replace h := ifFd w28 h
          subst h
          exact hR _ hO

        · replace h := ifTd w27 h
          subst h
          exact hR _ hO


      · replace h := ifFd w26 h
        subst h
        exact hR _ hO


    · replace h := ifTd w23 h
      subst h
      exact hR _ hO


  · replace h := ifFd w22 h
    refine ⟨fun w29 => ?_, fun w30 => ?_⟩
    · replace h := ifTd w29 h
      refine ⟨fun w32 => ?_, fun w31 => ?_⟩
      · replace h := ifFd w32 h
        subst h
        exact hR _ hO

      · replace h := ifTd w31 h
        subst h
        exact hR _ hO


    · replace h := ifFd w30 h
      subst h
      exact hR _ hO




theorem c195 (z0 : Int) (r_ : List UInt8) (h : s195 z0 = r_) (F : List Ent) (H : Heap) (R : Value → Heap → Prop)
    (hO : Own H [] F)
    (hR : ∀ (H' : Heap) , Own H' [] F → R (str r_) H') :
    HCalls Tryz.prog 195 #[I z0] H R := by
  refine vc195 z0 H R ?_
  unfold s195 at h
  refine ⟨fun w21 => ?_, fun w22 => ?_⟩
  · replace h := ifTd w21 h
    subst h
    exact hR _ hO

  · replace h := ifFd w22 h
    refine ⟨fun w23 => ?_, fun w24 => ?_⟩
    · replace h := ifTd w23 h
      subst h
      exact hR _ hO

    · replace h := ifFd w24 h
      refine ⟨fun w25 => ?_, fun w26 => ?_⟩
      · replace h := ifTd w25 h
        subst h
        exact hR _ hO

      · replace h := ifFd w26 h
        refine ⟨fun w27 => ?_, fun w28 => ?_⟩
        · replace h := ifTd w27 h
          subst h
          exact hR _ hO

        · replace h := ifFd w28 h
          refine ⟨fun w29 => ?_, fun w30 => ?_⟩
          · replace h := ifTd w29 h
            subst h
            exact hR _ hO

          · replace h := ifFd w30 h
            refine ⟨fun w31 => ?_, fun w32 => ?_⟩
            · replace h := ifTd w31 h
              subst h
              exact hR _ hO

            · replace h := ifFd w32 h
              refine ⟨fun w33 => ?_, fun w34 => ?_⟩
              · replace h := ifTd w33 h
                subst h
                exact hR _ hO

              · replace h := ifFd w34 h
                refine ⟨fun w35 => ?_, fun w36 => ?_⟩
                · replace h := ifTd w35 h
                  subst h
                  exact hR _ hO

                · replace h := ifFd w36 h
                  refine ⟨fun w37 => ?_, fun w38 => ?_⟩
                  · replace h := ifTd w37 h
                    subst h
                    exact hR _ hO

                  · replace h := ifFd w38 h
                    refine ⟨fun w39 => ?_, fun w40 => ?_⟩
                    · replace h := ifTd w39 h
                      subst h
                      exact hR _ hO

                    · replace h := ifFd w40 h
                      subst h
                      exact hR _ hO












theorem c205 (z0 : Int) (z1 : Int) (r_ : Int) (h : s205 z0 z1 = r_) (F : List Ent) (H : Heap) (R : Value → Heap → Prop)
    (hO : Own H [] F)
    (hR : ∀ (H' : Heap) , Own H' [] F → R (I r_) H') :
    HCalls Tryz.prog 205 #[I z0, Value.int .u8 z1] H R := by
  refine vc205 z0 z1 H R ?_
  unfold s205 at h
  refine ⟨fun w21 => ?_, fun w22 => ?_⟩
  · replace h := ifTd w21 h
    refine ⟨fun _ => ?_, fun c => (by simp [w21] at c)⟩
    refine ⟨fun w23 => ?_, fun w24 => ?_⟩
    · replace h := ifTd w23 h
      subst h
      exact hR _ hO

    · replace h := ifFd w24 h
      refine ⟨fun w25 => ?_, fun w26 => ?_⟩
      · replace h := ifTd w25 h
        refine ⟨fun w27 => ?_, fun w28 => ?_⟩
        · replace h := ifTd w27 h
          subst h
          exact hR _ hO

        · replace h := ifFd w28 h
          subst h
          exact hR _ hO


      · replace h := ifFd w26 h
        subst h
        exact hR _ hO



  · replace h := ifFd w22 h
    refine ⟨fun w29 => ?_, fun w30 => ?_⟩
    · replace h := ifTd w29 h
      refine ⟨fun c => (by simp [w22] at c), fun _ => ?_⟩
      refine ⟨fun w31 => ?_, fun w32 => ?_⟩
      · replace h := ifTd w31 h
        refine ⟨fun w33 => ?_, fun w34 => ?_⟩
        · replace h := ifTd w33 h
          subst h
          exact hR _ hO

        · replace h := ifFd w34 h
          subst h
          exact hR _ hO


      · replace h := ifFd w32 h
        subst h
        exact hR _ hO


    · replace h := ifFd w30 h
      refine ⟨fun w35 => ?_, fun w36 => ?_⟩
      · replace h := ifTd w35 h
        refine ⟨fun _ => ?_, fun c => (by simp [w35] at c)⟩
        refine ⟨fun w37 => ?_, fun w38 => ?_⟩
        · replace h := ifTd w37 h
          subst h
          exact hR _ hO

        · replace h := ifFd w38 h
          refine ⟨fun w39 => ?_, fun w40 => ?_⟩
          · replace h := ifTd w39 h
            refine ⟨fun w41 => ?_, fun w42 => ?_⟩
            · replace h := ifTd w41 h
              subst h
              exact hR _ hO

            · replace h := ifFd w42 h
              subst h
              exact hR _ hO


          · replace h := ifFd w40 h
            subst h
            exact hR _ hO



      · replace h := ifFd w36 h
        refine ⟨fun w43 => ?_, fun w44 => ?_⟩
        · replace h := ifTd w43 h
          refine ⟨fun c => (by simp [w36] at c), fun _ => ?_⟩
          refine ⟨fun w45 => ?_, fun w46 => ?_⟩
          · replace h := ifTd w45 h
            refine ⟨fun w47 => ?_, fun w48 => ?_⟩
            · replace h := ifTd w47 h
              subst h
              exact hR _ hO

            · replace h := ifFd w48 h
              subst h
              exact hR _ hO


          · replace h := ifFd w46 h
            subst h
            exact hR _ hO


        · replace h := ifFd w44 h
          refine ⟨fun w49 => ?_, fun w50 => ?_⟩
          · replace h := ifTd w49 h
            refine ⟨fun w51 => ?_, fun w52 => ?_⟩
            · replace h := ifTd w51 h
              refine ⟨fun w53 => ?_, fun w54 => ?_⟩
              · replace h := ifTd w53 h
                subst h
                exact hR _ hO

              · replace h := ifFd w54 h
                subst h
                exact hR _ hO


            · replace h := ifFd w52 h
              subst h
              exact hR _ hO


          · replace h := ifFd w50 h
            subst h
            exact hR _ hO







theorem c166 (n_ : Nat) (z0 : List UInt8) (z1 : Int) (r_ : TokT) (h : s166 n_ z0 z1 = some r_) (F : List Ent) (H : Heap) (R : Value → Heap → Prop)
    (hO : Own H [] F)
    (hR : ∀ (H' : Heap) , Own H' [] F → R (.agg ⟨encTok r_⟩) H') :
    HCalls Tryz.prog 166 #[str z0, I z1] H R := by
  refine vc166 z0 z1 H R ?_
  unfold s166 at h
  intro H21 eH21
  replace hO := own_new (l := encTok (⟨(0 : Int), (0 : Int), (0 : Int), (0 : Int), (0 : Int), (⟨(0 : Int), (0 : Int), false, false⟩ : RefT)⟩ : TokT)) hO eH21 rfl
  intro H22 eH22
  replace hO := own_new (l := encTok (⟨(0 : Int), (0 : Int), (0 : Int), (0 : Int), (0 : Int), (⟨(0 : Int), (0 : Int), false, false⟩ : RefT)⟩ : TokT)) hO eH22 rfl
  refine ⟨(hO.blk (.head _)).wr (Nat.le_of_ble_eq_true rfl), ?_⟩
  intro H23 eH23
  replace hO := oz0 (l' := encTok (⟨(4 : Int), z1, z1, (0 : Int), (0 : Int), (⟨(0 : Int), (0 : Int), false, false⟩ : RefT)⟩ : TokT)) hO eH23 rfl
  refine ⟨fun l Hc => ∃ m : Nat, ∃ t40 : TokT, Own Hc [cellE 194 H21.size (encTok t40), cellE 194 H.size (encTok (⟨(0 : Int), (0 : Int), (0 : Int), (0 : Int), (0 : Int), (⟨(0 : Int), (0 : Int), false, false⟩ : RefT)⟩ : TokT))] F ∧ (l166_10 n_ z0 z1 m (asI (nth l 0)) t40) = some r_, fun l Hc => Classical.epsilon <| lsp fun m => ∃ t40 : TokT, Own Hc [cellE 194 H21.size (encTok t40), cellE 194 H.size (encTok (⟨(0 : Int), (0 : Int), (0 : Int), (0 : Int), (0 : Int), (⟨(0 : Int), (0 : Int), false, false⟩ : RefT)⟩ : TokT))] F ∧ (l166_10 n_ z0 z1 m (asI (nth l 0)) t40) = some r_, ?_, ?_⟩
  · exact ⟨n_, (⟨(4 : Int), z1, z1, (0 : Int), (0 : Int), (⟨(0 : Int), (0 : Int), false, false⟩ : RefT)⟩ : TokT), hO, h⟩
  · clear hO h
    intro H41 u42 x43 hJ
    obtain ⟨m241, hm45, hJ⟩ := lst_get hJ
    obtain ⟨t40, hO, h⟩ := hJ
    rcases m241 with _ | k240
    · exact absurd h (by simp [l166_10, asI, asB, asC, asS])
    obtain ⟨rec44, hrec44, h⟩ : ∃ f_, f_ = l166_10 n_ z0 z1 k240 ∧ (l166_10_st n_ z0 z1 f_ x43 t40) = some r_ := ⟨_, rfl, h⟩
    unfold l166_10_st at h
    refine ⟨t40.end_, ((hO.blk (.head _)).rdv rfl), ?_⟩
    refine ⟨fun w46 => ?_, fun w47 => ?_⟩
    · replace h := ifTd w46 h
      refine ⟨t40.end_, ((hO.blk (.head _)).rdv rfl), ?_⟩
      obtain ⟨q48, h⟩ := ckS h
      refine ⟨q48.1, q48.2, ?_⟩
      refine c165 ((List.getD z0 (Int.toNat t40.end_) 0).toNat : Int) _ rfl _ _ _ (fr0 hO) (fun H49 hO => ?_)
      replace hO := un0 hO
      refine ⟨(s165 ((List.getD z0 (Int.toNat t40.end_) 0).toNat : Int)), rfl, ?_⟩
      refine ⟨fun w50 => ?_, fun w51 => ?_⟩
      · replace h := ifTb w50 h
        refine ⟨t40.end_, ((hO.blk (.head _)).rdv rfl), ?_⟩
        refine ⟨q48.1, q48.2, ?_⟩
        refine c205 x43 ((List.getD z0 (Int.toNat t40.end_) 0).toNat : Int) _ rfl _ _ _ (fr0 hO) (fun H52 hO => ?_)
        replace hO := un0 hO
        refine ⟨(s205 x43 ((List.getD z0 (Int.toNat t40.end_) 0).toNat : Int)), rfl, ?_⟩
        refine ⟨fun l Hc => ∃ t60 : TokT, Own Hc [cellE 194 H21.size (encTok t60), cellE 194 H.size (encTok (⟨(0 : Int), (0 : Int), (0 : Int), (0 : Int), (0 : Int), (⟨(0 : Int), (0 : Int), false, false⟩ : RefT)⟩ : TokT))] F ∧ (k166_1 z0 x43 t40 rec44 t60) = some r_, ?_, ?_⟩
        · refine ⟨fun w65 => ?_, fun w66 => ?_⟩
          · replace h := ifTd w65 h
            refine ⟨(hO.blk (.head _)).wr (Nat.le_of_ble_eq_true rfl), ?_⟩
            intro H67 eH67
            replace hO := os0 (l' := encTok ({ t40 with r := { t40.r with ac := true } })) hO eH67 rfl
            exact ⟨({ t40 with r := { t40.r with ac := true } }), hO, h⟩

          · replace h := ifFd w66 h
            refine ⟨fun w68 => ?_, fun w69 => ?_⟩
            · replace h := ifTd w68 h
              obtain ⟨q70, h⟩ := ckS h
              refine ⟨q70, ?_⟩
              obtain ⟨q71, h⟩ := ckS h
              refine ⟨q71, ?_⟩
              refine ⟨(hO.blk (.head _)).wr (Nat.le_of_ble_eq_true rfl), ?_⟩
              intro H72 eH72
              replace hO := os0 (l' := encTok ({ t40 with r := { t40.r with col := ((List.getD z0 (Int.toNat t40.end_) 0).toNat : Int) - (65 : Int) } })) hO eH72 rfl
              exact ⟨({ t40 with r := { t40.r with col := ((List.getD z0 (Int.toNat t40.end_) 0).toNat : Int) - (65 : Int) } }), hO, h⟩

            · replace h := ifFd w69 h
              refine ⟨fun w73 => ?_, fun w74 => ?_⟩
              · replace h := ifTd w73 h
                refine ⟨(hO.blk (.head _)).wr (Nat.le_of_ble_eq_true rfl), ?_⟩
                intro H75 eH75
                replace hO := os0 (l' := encTok ({ t40 with r := { t40.r with ar := true } })) hO eH75 rfl
                exact ⟨({ t40 with r := { t40.r with ar := true } }), hO, h⟩

              · replace h := ifFd w74 h
                refine ⟨fun w76 => ?_, fun w77 => ?_⟩
                · replace h := ifTd w76 h
                  refine ⟨t40.r.row, ((hO.blk (.head _)).rdv rfl), ?_⟩
                  obtain ⟨q78, h⟩ := ckS h
                  refine ⟨q78, ?_⟩
                  obtain ⟨q79, h⟩ := ckS h
                  refine ⟨q79, ?_⟩
                  obtain ⟨q80, h⟩ := ckS h
                  refine ⟨q80, ?_⟩
                  obtain ⟨q81, h⟩ := ckS h
                  refine ⟨_, .inl ⟨q81, rfl⟩, ?_⟩
                  refine ⟨(hO.blk (.head _)).wr (Nat.le_of_ble_eq_true rfl), ?_⟩
                  intro H82 eH82
                  replace hO := os0 (l' := encTok ({ t40 with r := { t40.r with row := (t40.r.row * (10 : Int)) + (((List.getD z0 (Int.toNat t40.end_) 0).toNat : Int) - (48 : Int)) } })) hO eH82 rfl
                  exact ⟨({ t40 with r := { t40.r with row := (t40.r.row * (10 : Int)) + (((List.getD z0 (Int.toNat t40.end_) 0).toNat : Int) - (48 : Int)) } }), hO, h⟩

                · replace h := ifFd w77 h
                  refine ⟨fun w83 => ?_, fun w84 => ?_⟩
                  · replace h := ifTd w83 h
                    refine ⟨t40.r.row, ((hO.blk (.head _)).rdv rfl), ?_⟩
                    obtain ⟨q85, h⟩ := ckS h
                    refine ⟨q85, ?_⟩
                    obtain ⟨q86, h⟩ := ckS h
                    refine ⟨q86, ?_⟩
                    obtain ⟨q87, h⟩ := ckS h
                    refine ⟨q87, ?_⟩
                    obtain ⟨q88, h⟩ := ckS h
                    refine ⟨_, .inl ⟨q88, rfl⟩, ?_⟩
                    refine ⟨(hO.blk (.head _)).wr (Nat.le_of_ble_eq_true rfl), ?_⟩
                    intro H89 eH89
                    replace hO := os0 (l' := encTok ({ t40 with r := { t40.r with row := (t40.r.row * (10 : Int)) + (((List.getD z0 (Int.toNat t40.end_) 0).toNat : Int) - (48 : Int)) } })) hO eH89 rfl
                    exact ⟨({ t40 with r := { t40.r with row := (t40.r.row * (10 : Int)) + (((List.getD z0 (Int.toNat t40.end_) 0).toNat : Int) - (48 : Int)) } }), hO, h⟩

                  · replace h := ifFd w84 h
                    exact ⟨t40, hO, h⟩






        · clear hO h
          intro H61 u62  hJ
          obtain ⟨t60, hO, h⟩ := hJ
          replace h : (k166_1 z0 x43 t40 rec44 t60) = some r_ := h
          unfold k166_1 at h
          refine ⟨t60.end_, ((hO.blk (.head _)).rdv rfl), ?_⟩
          obtain ⟨q63, h⟩ := ckS h
          refine ⟨_, .inl ⟨q63, rfl⟩, ?_⟩
          refine ⟨(hO.blk (.head _)).wr (Nat.le_of_ble_eq_true rfl), ?_⟩
          intro H64 eH64
          replace hO := os0 (l' := encTok ({ t60 with end_ := t60.end_ + (1 : Int) })) hO eH64 rfl
          subst hrec44
          exact lst_step hm45 ⟨({ t60 with end_ := t60.end_ + (1 : Int) }), hO, h⟩


      · replace h := ifFb w51 h
        refine ⟨fun w91 => ?_, fun w90 => ?_⟩
        · replace h := ifFd w91 h
          refine ⟨fun w92 => ?_, fun w93 => ?_⟩
          · replace h := ifTd w92 h
            refine ⟨t40.r.row, ((hO.blk (.head _)).rdv rfl), ?_⟩
            obtain ⟨q94, h⟩ := ckS h
            refine ⟨q94, ?_⟩
            refine ⟨(hO.blk (.head _)).wr (Nat.le_of_ble_eq_true rfl), ?_⟩
            intro H95 eH95
            replace hO := os0 (l' := encTok ({ t40 with r := { t40.r with row := t40.r.row - (1 : Int) } })) hO eH95 rfl
            refine ⟨{ t40 with r := { t40.r with row := t40.r.row - (1 : Int) } }, (hO.blk (.head _)).rowT rfl, ?_⟩
            refine ⟨(hO.blk (.tail _ (.head _))).wr (Nat.le_of_ble_eq_true rfl), ?_⟩
            intro H96 eH96
            replace hO := oz1 (l' := encTok ({ t40 with r := { t40.r with row := t40.r.row - (1 : Int) } })) hO eH96 rfl
            refine ⟨{ t40 with r := { t40.r with row := t40.r.row - (1 : Int) } }, (hO.blk (.tail _ (.head _))).rowT rfl, ?_⟩
            obtain rfl := Option.some.inj h
            exact hR _ (dr0 (dr0 (hO)))

          · replace h := ifFd w93 h
            refine ⟨(hO.blk (.head _)).wr (Nat.le_of_ble_eq_true rfl), ?_⟩
            intro H97 eH97
            replace hO := oz0 (l' := encTok ({ t40 with r := (⟨(0 : Int), (0 : Int), false, false⟩ : RefT) })) hO eH97 rfl
            refine ⟨t40.end_, ((hO.blk (.head _)).rdv rfl), ?_⟩
            obtain ⟨q98, h⟩ := ckS h
            refine ⟨q98.1, q98.2.1, q98.2.2, ?_⟩
            refine ⟨fun w100 => ?_, fun w99 => ?_⟩
            · replace h := ifFb w100 h
              refine ⟨fun w101 => ?_, fun w102 => ?_⟩
              · replace h := ifTb w101 h
                obtain ⟨q103, h⟩ := ckS h
                refine ⟨q103, ?_⟩
                refine ⟨(hO.blk (.head _)).wr (Nat.le_of_ble_eq_true rfl), ?_⟩
                intro H104 eH104
                replace hO := os0 (l' := encTok ({ t40 with kind := (2 : Int), r := (⟨(0 : Int), (0 : Int), false, false⟩ : RefT) })) hO eH104 rfl
                refine ⟨(hO.blk (.head _)).wr (Nat.le_of_ble_eq_true rfl), ?_⟩
                intro H105 eH105
                replace hO := os0 (l' := encTok ({ t40 with kind := (2 : Int), op := (2 : Int), r := (⟨(0 : Int), (0 : Int), false, false⟩ : RefT) })) hO eH105 rfl
                refine ⟨(hO.blk (.head _)).wr (Nat.le_of_ble_eq_true rfl), ?_⟩
                intro H106 eH106
                replace hO := os0 (l' := encTok (⟨(2 : Int), t40.at_, t40.end_, (2 : Int), ((5 : Int) - ((List.drop (Int.toNat z1) (List.take (Int.toNat t40.end_) z0)).length : Int)), (⟨(0 : Int), (0 : Int), false, false⟩ : RefT)⟩ : TokT)) hO eH106 rfl
                refine ⟨(⟨(2 : Int), t40.at_, t40.end_, (2 : Int), ((5 : Int) - ((List.drop (Int.toNat z1) (List.take (Int.toNat t40.end_) z0)).length : Int)), (⟨(0 : Int), (0 : Int), false, false⟩ : RefT)⟩ : TokT), (hO.blk (.head _)).rowT rfl, ?_⟩
                refine ⟨(hO.blk (.tail _ (.head _))).wr (Nat.le_of_ble_eq_true rfl), ?_⟩
                intro H107 eH107
                replace hO := oz1 (l' := encTok (⟨(2 : Int), t40.at_, t40.end_, (2 : Int), ((5 : Int) - ((List.drop (Int.toNat z1) (List.take (Int.toNat t40.end_) z0)).length : Int)), (⟨(0 : Int), (0 : Int), false, false⟩ : RefT)⟩ : TokT)) hO eH107 rfl
                refine ⟨(⟨(2 : Int), t40.at_, t40.end_, (2 : Int), ((5 : Int) - ((List.drop (Int.toNat z1) (List.take (Int.toNat t40.end_) z0)).length : Int)), (⟨(0 : Int), (0 : Int), false, false⟩ : RefT)⟩ : TokT), (hO.blk (.tail _ (.head _))).rowT rfl, ?_⟩
                obtain rfl := Option.some.inj h
                exact hR _ (dr0 (dr0 (hO)))

              · replace h := ifFb w102 h
                refine ⟨(hO.blk (.head _)).wr (Nat.le_of_ble_eq_true rfl), ?_⟩
                intro H108 eH108
                replace hO := os0 (l' := encTok ({ t40 with kind := (3 : Int), r := (⟨(0 : Int), (0 : Int), false, false⟩ : RefT) })) hO eH108 rfl
                refine ⟨(hO.blk (.head _)).wr (Nat.le_of_ble_eq_true rfl), ?_⟩
                intro H109 eH109
                replace hO := os0 (l' := encTok ({ t40 with kind := (3 : Int), n := (5 : Int), r := (⟨(0 : Int), (0 : Int), false, false⟩ : RefT) })) hO eH109 rfl
                refine ⟨fun l Hc => ∃ m : Nat, ∃ t129 : TokT, Own Hc [cellE 194 H21.size (encTok t129), cellE 194 H.size (encTok (⟨(0 : Int), (0 : Int), (0 : Int), (0 : Int), (0 : Int), (⟨(0 : Int), (0 : Int), false, false⟩ : RefT)⟩ : TokT))] F ∧ (l166_5 n_ z0 z1 t40 m (asI (nth l 0)) t129) = some r_, fun l Hc => Classical.epsilon <| lsp fun m => ∃ t129 : TokT, Own Hc [cellE 194 H21.size (encTok t129), cellE 194 H.size (encTok (⟨(0 : Int), (0 : Int), (0 : Int), (0 : Int), (0 : Int), (⟨(0 : Int), (0 : Int), false, false⟩ : RefT)⟩ : TokT))] F ∧ (l166_5 n_ z0 z1 t40 m (asI (nth l 0)) t129) = some r_, ?_, ?_⟩
                · exact ⟨n_, ({ t40 with kind := (3 : Int), n := (5 : Int), r := (⟨(0 : Int), (0 : Int), false, false⟩ : RefT) }), hO, h⟩
                · clear hO h
                  intro H130 u131 x132 hJ
                  obtain ⟨m156, hm134, hJ⟩ := lst_get hJ
                  obtain ⟨t129, hO, h⟩ := hJ
                  rcases m156 with _ | k155
                  · exact absurd h (by simp [l166_5, asI, asB, asC, asS])
                  obtain ⟨rec133, hrec133, h⟩ : ∃ f_, f_ = l166_5 n_ z0 z1 t40 k155 ∧ (l166_5_st n_ z0 z1 t40 f_ x132 t129) = some r_ := ⟨_, rfl, h⟩
                  unfold l166_5_st at h
                  refine ⟨fun w135 => ?_, fun w136 => ?_⟩
                  · replace h := ifTd w135 h
                    refine ⟨fun l Hc => ∃ t145 : TokT, Own Hc [cellE 194 H21.size (encTok t145), cellE 194 H.size (encTok (⟨(0 : Int), (0 : Int), (0 : Int), (0 : Int), (0 : Int), (⟨(0 : Int), (0 : Int), false, false⟩ : RefT)⟩ : TokT))] F ∧ (k166_4 x132 rec133 t145) = some r_, ?_, ?_⟩
                    · refine c195 x132 _ rfl _ _ _ (fr0 hO) (fun H149 hO => ?_)
                      replace hO := un0 hO
                      refine ⟨(s195 x132), rfl, ?_⟩
                      refine ⟨fun w150 => ?_, fun w151 => ?_⟩
                      · replace h := ifTb w150 h
                        refine ⟨(hO.blk (.head _)).wr (Nat.le_of_ble_eq_true rfl), ?_⟩
                        intro H152 eH152
                        replace hO := os0 (l' := encTok ({ t129 with kind := (5 : Int) })) hO eH152 rfl
                        refine ⟨(hO.blk (.head _)).wr (Nat.le_of_ble_eq_true rfl), ?_⟩
                        intro H153 eH153
                        replace hO := os0 (l' := encTok ({ t129 with kind := (5 : Int), n := x132 })) hO eH153 rfl
                        exact ⟨({ t129 with kind := (5 : Int), n := x132 }), hO, h⟩

                      · replace h := ifFb w151 h
                        exact ⟨t129, hO, h⟩


                    · clear hO h
                      intro H146 u147  hJ
                      obtain ⟨t145, hO, h⟩ := hJ
                      replace h : (k166_4 x132 rec133 t145) = some r_ := h
                      unfold k166_4 at h
                      obtain ⟨q148, h⟩ := ckS h
                      refine ⟨_, .inl ⟨q148, rfl⟩, ?_⟩
                      subst hrec133
                      exact lst_step hm134 ⟨t145, hO, h⟩


                  · replace h := ifFd w136 h
                    refine ⟨t129, (hO.blk (.head _)).rowT rfl, ?_⟩
                    refine ⟨(hO.blk (.tail _ (.head _))).wr (Nat.le_of_ble_eq_true rfl), ?_⟩
                    intro H154 eH154
                    replace hO := oz1 (l' := encTok t129) hO eH154 rfl
                    refine ⟨t129, (hO.blk (.tail _ (.head _))).rowT rfl, ?_⟩
                    obtain rfl := Option.some.inj h
                    exact hR _ (dr0 (dr0 (hO)))




            · replace h := ifTb w99 h
              obtain ⟨q157, h⟩ := ckS h
              refine ⟨q157, ?_⟩
              refine ⟨(hO.blk (.head _)).wr (Nat.le_of_ble_eq_true rfl), ?_⟩
              intro H158 eH158
              replace hO := os0 (l' := encTok ({ t40 with kind := (2 : Int), r := (⟨(0 : Int), (0 : Int), false, false⟩ : RefT) })) hO eH158 rfl
              refine ⟨(hO.blk (.head _)).wr (Nat.le_of_ble_eq_true rfl), ?_⟩
              intro H159 eH159
              replace hO := os0 (l' := encTok ({ t40 with kind := (2 : Int), op := (2 : Int), r := (⟨(0 : Int), (0 : Int), false, false⟩ : RefT) })) hO eH159 rfl
              refine ⟨(hO.blk (.head _)).wr (Nat.le_of_ble_eq_true rfl), ?_⟩
              intro H160 eH160
              replace hO := os0 (l' := encTok (⟨(2 : Int), t40.at_, t40.end_, (2 : Int), ((5 : Int) - ((List.drop (Int.toNat z1) (List.take (Int.toNat t40.end_) z0)).length : Int)), (⟨(0 : Int), (0 : Int), false, false⟩ : RefT)⟩ : TokT)) hO eH160 rfl
              refine ⟨(⟨(2 : Int), t40.at_, t40.end_, (2 : Int), ((5 : Int) - ((List.drop (Int.toNat z1) (List.take (Int.toNat t40.end_) z0)).length : Int)), (⟨(0 : Int), (0 : Int), false, false⟩ : RefT)⟩ : TokT), (hO.blk (.head _)).rowT rfl, ?_⟩
              refine ⟨(hO.blk (.tail _ (.head _))).wr (Nat.le_of_ble_eq_true rfl), ?_⟩
              intro H161 eH161
              replace hO := oz1 (l' := encTok (⟨(2 : Int), t40.at_, t40.end_, (2 : Int), ((5 : Int) - ((List.drop (Int.toNat z1) (List.take (Int.toNat t40.end_) z0)).length : Int)), (⟨(0 : Int), (0 : Int), false, false⟩ : RefT)⟩ : TokT)) hO eH161 rfl
              refine ⟨(⟨(2 : Int), t40.at_, t40.end_, (2 : Int), ((5 : Int) - ((List.drop (Int.toNat z1) (List.take (Int.toNat t40.end_) z0)).length : Int)), (⟨(0 : Int), (0 : Int), false, false⟩ : RefT)⟩ : TokT), (hO.blk (.tail _ (.head _))).rowT rfl, ?_⟩
              obtain rfl := Option.some.inj h
              exact hR _ (dr0 (dr0 (hO)))



        · replace h := ifTd w90 h
          refine ⟨t40.r.row, ((hO.blk (.head _)).rdv rfl), ?_⟩
          obtain ⟨q162, h⟩ := ckS h
          refine ⟨q162, ?_⟩
          refine ⟨(hO.blk (.head _)).wr (Nat.le_of_ble_eq_true rfl), ?_⟩
          intro H163 eH163
          replace hO := os0 (l' := encTok ({ t40 with r := { t40.r with row := t40.r.row - (1 : Int) } })) hO eH163 rfl
          refine ⟨{ t40 with r := { t40.r with row := t40.r.row - (1 : Int) } }, (hO.blk (.head _)).rowT rfl, ?_⟩
          refine ⟨(hO.blk (.tail _ (.head _))).wr (Nat.le_of_ble_eq_true rfl), ?_⟩
          intro H164 eH164
          replace hO := oz1 (l' := encTok ({ t40 with r := { t40.r with row := t40.r.row - (1 : Int) } })) hO eH164 rfl
          refine ⟨{ t40 with r := { t40.r with row := t40.r.row - (1 : Int) } }, (hO.blk (.tail _ (.head _))).rowT rfl, ?_⟩
          obtain rfl := Option.some.inj h
          exact hR _ (dr0 (dr0 (hO)))



    · replace h := ifFd w47 h
      refine ⟨fun w166 => ?_, fun w165 => ?_⟩
      · replace h := ifFd w166 h
        refine ⟨fun w167 => ?_, fun w168 => ?_⟩
        · replace h := ifTd w167 h
          refine ⟨t40.r.row, ((hO.blk (.head _)).rdv rfl), ?_⟩
          obtain ⟨q169, h⟩ := ckS h
          refine ⟨q169, ?_⟩
          refine ⟨(hO.blk (.head _)).wr (Nat.le_of_ble_eq_true rfl), ?_⟩
          intro H170 eH170
          replace hO := os0 (l' := encTok ({ t40 with r := { t40.r with row := t40.r.row - (1 : Int) } })) hO eH170 rfl
          refine ⟨{ t40 with r := { t40.r with row := t40.r.row - (1 : Int) } }, (hO.blk (.head _)).rowT rfl, ?_⟩
          refine ⟨(hO.blk (.tail _ (.head _))).wr (Nat.le_of_ble_eq_true rfl), ?_⟩
          intro H171 eH171
          replace hO := oz1 (l' := encTok ({ t40 with r := { t40.r with row := t40.r.row - (1 : Int) } })) hO eH171 rfl
          refine ⟨{ t40 with r := { t40.r with row := t40.r.row - (1 : Int) } }, (hO.blk (.tail _ (.head _))).rowT rfl, ?_⟩
          obtain rfl := Option.some.inj h
          exact hR _ (dr0 (dr0 (hO)))

        · replace h := ifFd w168 h
          refine ⟨(hO.blk (.head _)).wr (Nat.le_of_ble_eq_true rfl), ?_⟩
          intro H172 eH172
          replace hO := oz0 (l' := encTok ({ t40 with r := (⟨(0 : Int), (0 : Int), false, false⟩ : RefT) })) hO eH172 rfl
          refine ⟨t40.end_, ((hO.blk (.head _)).rdv rfl), ?_⟩
          obtain ⟨q173, h⟩ := ckS h
          refine ⟨q173.1, q173.2.1, q173.2.2, ?_⟩
          refine ⟨fun w175 => ?_, fun w174 => ?_⟩
          · replace h := ifFb w175 h
            refine ⟨fun w176 => ?_, fun w177 => ?_⟩
            · replace h := ifTb w176 h
              obtain ⟨q178, h⟩ := ckS h
              refine ⟨q178, ?_⟩
              refine ⟨(hO.blk (.head _)).wr (Nat.le_of_ble_eq_true rfl), ?_⟩
              intro H179 eH179
              replace hO := os0 (l' := encTok ({ t40 with kind := (2 : Int), r := (⟨(0 : Int), (0 : Int), false, false⟩ : RefT) })) hO eH179 rfl
              refine ⟨(hO.blk (.head _)).wr (Nat.le_of_ble_eq_true rfl), ?_⟩
              intro H180 eH180
              replace hO := os0 (l' := encTok ({ t40 with kind := (2 : Int), op := (2 : Int), r := (⟨(0 : Int), (0 : Int), false, false⟩ : RefT) })) hO eH180 rfl
              refine ⟨(hO.blk (.head _)).wr (Nat.le_of_ble_eq_true rfl), ?_⟩
              intro H181 eH181
              replace hO := os0 (l' := encTok (⟨(2 : Int), t40.at_, t40.end_, (2 : Int), ((5 : Int) - ((List.drop (Int.toNat z1) (List.take (Int.toNat t40.end_) z0)).length : Int)), (⟨(0 : Int), (0 : Int), false, false⟩ : RefT)⟩ : TokT)) hO eH181 rfl
              refine ⟨(⟨(2 : Int), t40.at_, t40.end_, (2 : Int), ((5 : Int) - ((List.drop (Int.toNat z1) (List.take (Int.toNat t40.end_) z0)).length : Int)), (⟨(0 : Int), (0 : Int), false, false⟩ : RefT)⟩ : TokT), (hO.blk (.head _)).rowT rfl, ?_⟩
              refine ⟨(hO.blk (.tail _ (.head _))).wr (Nat.le_of_ble_eq_true rfl), ?_⟩
              intro H182 eH182
              replace hO := oz1 (l' := encTok (⟨(2 : Int), t40.at_, t40.end_, (2 : Int), ((5 : Int) - ((List.drop (Int.toNat z1) (List.take (Int.toNat t40.end_) z0)).length : Int)), (⟨(0 : Int), (0 : Int), false, false⟩ : RefT)⟩ : TokT)) hO eH182 rfl
              refine ⟨(⟨(2 : Int), t40.at_, t40.end_, (2 : Int), ((5 : Int) - ((List.drop (Int.toNat z1) (List.take (Int.toNat t40.end_) z0)).length : Int)), (⟨(0 : Int), (0 : Int), false, false⟩ : RefT)⟩ : TokT), (hO.blk (.tail _ (.head _))).rowT rfl, ?_⟩
              obtain rfl := Option.some.inj h
              exact hR _ (dr0 (dr0 (hO)))

            · replace h := ifFb w177 h
              refine ⟨(hO.blk (.head _)).wr (Nat.le_of_ble_eq_true rfl), ?_⟩
              intro H183 eH183
              replace hO := os0 (l' := encTok ({ t40 with kind := (3 : Int), r := (⟨(0 : Int), (0 : Int), false, false⟩ : RefT) })) hO eH183 rfl
              refine ⟨(hO.blk (.head _)).wr (Nat.le_of_ble_eq_true rfl), ?_⟩
              intro H184 eH184
              replace hO := os0 (l' := encTok ({ t40 with kind := (3 : Int), n := (5 : Int), r := (⟨(0 : Int), (0 : Int), false, false⟩ : RefT) })) hO eH184 rfl
              refine ⟨fun l Hc => ∃ m : Nat, ∃ t204 : TokT, Own Hc [cellE 194 H21.size (encTok t204), cellE 194 H.size (encTok (⟨(0 : Int), (0 : Int), (0 : Int), (0 : Int), (0 : Int), (⟨(0 : Int), (0 : Int), false, false⟩ : RefT)⟩ : TokT))] F ∧ (l166_5 n_ z0 z1 t40 m (asI (nth l 0)) t204) = some r_, fun l Hc => Classical.epsilon <| lsp fun m => ∃ t204 : TokT, Own Hc [cellE 194 H21.size (encTok t204), cellE 194 H.size (encTok (⟨(0 : Int), (0 : Int), (0 : Int), (0 : Int), (0 : Int), (⟨(0 : Int), (0 : Int), false, false⟩ : RefT)⟩ : TokT))] F ∧ (l166_5 n_ z0 z1 t40 m (asI (nth l 0)) t204) = some r_, ?_, ?_⟩
              · exact ⟨n_, ({ t40 with kind := (3 : Int), n := (5 : Int), r := (⟨(0 : Int), (0 : Int), false, false⟩ : RefT) }), hO, h⟩
              · clear hO h
                intro H205 u206 x207 hJ
                obtain ⟨m231, hm209, hJ⟩ := lst_get hJ
                obtain ⟨t204, hO, h⟩ := hJ
                rcases m231 with _ | k230
                · exact absurd h (by simp [l166_5, asI, asB, asC, asS])
                obtain ⟨rec208, hrec208, h⟩ : ∃ f_, f_ = l166_5 n_ z0 z1 t40 k230 ∧ (l166_5_st n_ z0 z1 t40 f_ x207 t204) = some r_ := ⟨_, rfl, h⟩
                unfold l166_5_st at h
                refine ⟨fun w210 => ?_, fun w211 => ?_⟩
                · replace h := ifTd w210 h
                  refine ⟨fun l Hc => ∃ t220 : TokT, Own Hc [cellE 194 H21.size (encTok t220), cellE 194 H.size (encTok (⟨(0 : Int), (0 : Int), (0 : Int), (0 : Int), (0 : Int), (⟨(0 : Int), (0 : Int), false, false⟩ : RefT)⟩ : TokT))] F ∧ (k166_4 x207 rec208 t220) = some r_, ?_, ?_⟩
                  · refine c195 x207 _ rfl _ _ _ (fr0 hO) (fun H224 hO => ?_)
                    replace hO := un0 hO
                    refine ⟨(s195 x207), rfl, ?_⟩
                    refine ⟨fun w225 => ?_, fun w226 => ?_⟩
                    · replace h := ifTb w225 h
                      refine ⟨(hO.blk (.head _)).wr (Nat.le_of_ble_eq_true rfl), ?_⟩
                      intro H227 eH227
                      replace hO := os0 (l' := encTok ({ t204 with kind := (5 : Int) })) hO eH227 rfl
                      refine ⟨(hO.blk (.head _)).wr (Nat.le_of_ble_eq_true rfl), ?_⟩
                      intro H228 eH228
                      replace hO := os0 (l' := encTok ({ t204 with kind := (5 : Int), n := x207 })) hO eH228 rfl
                      exact ⟨({ t204 with kind := (5 : Int), n := x207 }), hO, h⟩

                    · replace h := ifFb w226 h
                      exact ⟨t204, hO, h⟩


                  · clear hO h
                    intro H221 u222  hJ
                    obtain ⟨t220, hO, h⟩ := hJ
                    replace h : (k166_4 x207 rec208 t220) = some r_ := h
                    unfold k166_4 at h
                    obtain ⟨q223, h⟩ := ckS h
                    refine ⟨_, .inl ⟨q223, rfl⟩, ?_⟩
                    subst hrec208
                    exact lst_step hm209 ⟨t220, hO, h⟩


                · replace h := ifFd w211 h
                  refine ⟨t204, (hO.blk (.head _)).rowT rfl, ?_⟩
                  refine ⟨(hO.blk (.tail _ (.head _))).wr (Nat.le_of_ble_eq_true rfl), ?_⟩
                  intro H229 eH229
                  replace hO := oz1 (l' := encTok t204) hO eH229 rfl
                  refine ⟨t204, (hO.blk (.tail _ (.head _))).rowT rfl, ?_⟩
                  obtain rfl := Option.some.inj h
                  exact hR _ (dr0 (dr0 (hO)))




          · replace h := ifTb w174 h
            obtain ⟨q232, h⟩ := ckS h
            refine ⟨q232, ?_⟩
            refine ⟨(hO.blk (.head _)).wr (Nat.le_of_ble_eq_true rfl), ?_⟩
            intro H233 eH233
            replace hO := os0 (l' := encTok ({ t40 with kind := (2 : Int), r := (⟨(0 : Int), (0 : Int), false, false⟩ : RefT) })) hO eH233 rfl
            refine ⟨(hO.blk (.head _)).wr (Nat.le_of_ble_eq_true rfl), ?_⟩
            intro H234 eH234
            replace hO := os0 (l' := encTok ({ t40 with kind := (2 : Int), op := (2 : Int), r := (⟨(0 : Int), (0 : Int), false, false⟩ : RefT) })) hO eH234 rfl
            refine ⟨(hO.blk (.head _)).wr (Nat.le_of_ble_eq_true rfl), ?_⟩
            intro H235 eH235
            replace hO := os0 (l' := encTok (⟨(2 : Int), t40.at_, t40.end_, (2 : Int), ((5 : Int) - ((List.drop (Int.toNat z1) (List.take (Int.toNat t40.end_) z0)).length : Int)), (⟨(0 : Int), (0 : Int), false, false⟩ : RefT)⟩ : TokT)) hO eH235 rfl
            refine ⟨(⟨(2 : Int), t40.at_, t40.end_, (2 : Int), ((5 : Int) - ((List.drop (Int.toNat z1) (List.take (Int.toNat t40.end_) z0)).length : Int)), (⟨(0 : Int), (0 : Int), false, false⟩ : RefT)⟩ : TokT), (hO.blk (.head _)).rowT rfl, ?_⟩
            refine ⟨(hO.blk (.tail _ (.head _))).wr (Nat.le_of_ble_eq_true rfl), ?_⟩
            intro H236 eH236
            replace hO := oz1 (l' := encTok (⟨(2 : Int), t40.at_, t40.end_, (2 : Int), ((5 : Int) - ((List.drop (Int.toNat z1) (List.take (Int.toNat t40.end_) z0)).length : Int)), (⟨(0 : Int), (0 : Int), false, false⟩ : RefT)⟩ : TokT)) hO eH236 rfl
            refine ⟨(⟨(2 : Int), t40.at_, t40.end_, (2 : Int), ((5 : Int) - ((List.drop (Int.toNat z1) (List.take (Int.toNat t40.end_) z0)).length : Int)), (⟨(0 : Int), (0 : Int), false, false⟩ : RefT)⟩ : TokT), (hO.blk (.tail _ (.head _))).rowT rfl, ?_⟩
            obtain rfl := Option.some.inj h
            exact hR _ (dr0 (dr0 (hO)))



      · replace h := ifTd w165 h
        refine ⟨t40.r.row, ((hO.blk (.head _)).rdv rfl), ?_⟩
        obtain ⟨q237, h⟩ := ckS h
        refine ⟨q237, ?_⟩
        refine ⟨(hO.blk (.head _)).wr (Nat.le_of_ble_eq_true rfl), ?_⟩
        intro H238 eH238
        replace hO := os0 (l' := encTok ({ t40 with r := { t40.r with row := t40.r.row - (1 : Int) } })) hO eH238 rfl
        refine ⟨{ t40 with r := { t40.r with row := t40.r.row - (1 : Int) } }, (hO.blk (.head _)).rowT rfl, ?_⟩
        refine ⟨(hO.blk (.tail _ (.head _))).wr (Nat.le_of_ble_eq_true rfl), ?_⟩
        intro H239 eH239
        replace hO := oz1 (l' := encTok ({ t40 with r := { t40.r with row := t40.r.row - (1 : Int) } })) hO eH239 rfl
        refine ⟨{ t40 with r := { t40.r with row := t40.r.row - (1 : Int) } }, (hO.blk (.tail _ (.head _))).rowT rfl, ?_⟩
        obtain rfl := Option.some.inj h
        exact hR _ (dr0 (dr0 (hO)))





theorem c167 (z0 : List UInt8) (z1 : Int) (r_ : TokT) (h : s167 z0 z1 = some r_) (F : List Ent) (H : Heap) (R : Value → Heap → Prop)
    (hO : Own H [] F)
    (hR : ∀ (H' : Heap) , Own H' [] F → R (.agg ⟨encTok r_⟩) H') :
    HCalls Tryz.prog 167 #[str z0, I z1] H R := by
  refine vc167 z0 z1 H R ?_
  unfold s167 at h
  intro H21 eH21
  replace hO := own_new (l := encTok (⟨(0 : Int), (0 : Int), (0 : Int), (0 : Int), (0 : Int), (⟨(0 : Int), (0 : Int), false, false⟩ : RefT)⟩ : TokT)) hO eH21 rfl
  obtain ⟨q22, h⟩ := ckS h
  refine ⟨_, .inl ⟨q22, rfl⟩, ?_⟩
  intro H23 eH23
  replace hO := own_new (l := encTok (⟨(0 : Int), (0 : Int), (0 : Int), (0 : Int), (0 : Int), (⟨(0 : Int), (0 : Int), false, false⟩ : RefT)⟩ : TokT)) hO eH23 rfl
  refine ⟨(hO.blk (.head _)).wr (Nat.le_of_ble_eq_true rfl), ?_⟩
  intro H24 eH24
  replace hO := oz0 (l' := encTok (⟨(6 : Int), z1, (z1 + (1 : Int)), (0 : Int), (0 : Int), (⟨(0 : Int), (0 : Int), false, false⟩ : RefT)⟩ : TokT)) hO eH24 rfl
  refine ⟨fun l Hc => Own Hc [cellE 194 H21.size (encTok (⟨(6 : Int), z1, (z1 + (1 : Int)), (0 : Int), (0 : Int), (⟨(0 : Int), (0 : Int), false, false⟩ : RefT)⟩ : TokT)), cellE 194 H.size (encTok (⟨(0 : Int), (0 : Int), (0 : Int), (0 : Int), (0 : Int), (⟨(0 : Int), (0 : Int), false, false⟩ : RefT)⟩ : TokT))] F ∧ (k167_0 z0 z1 (asC (nth l 0))) = some r_, ?_, ?_⟩
  · refine ⟨_, .inl ⟨q22, rfl⟩, ?_⟩
    refine ⟨fun w106 => ?_, fun w107 => ?_⟩
    · replace h := ifTd w106 h
      refine ⟨_, .inl ⟨q22, rfl⟩, ?_⟩
      obtain ⟨q108, h⟩ := ckS h
      refine ⟨q108.1, q108.2, ?_⟩
      exact ⟨hO, h⟩

    · replace h := ifFd w107 h
      exact ⟨hO, h⟩


  · clear hO h
    intro H25 u26 x27 hJ
    obtain ⟨hO, h⟩ := hJ
    replace h : (k167_0 z0 z1 x27) = some r_ := h
    unfold k167_0 at h
    obtain ⟨q28, h⟩ := ckS h
    refine ⟨q28.1, q28.2, ?_⟩
    refine ⟨fun w29 => ?_, fun w30 => ?_⟩
    · replace h := ifTd w29 h
      refine ⟨q28.1, q28.2, ?_⟩
      refine ⟨u8ok _, ?_⟩
      refine ⟨(hO.blk (.head _)).wr (Nat.le_of_ble_eq_true rfl), ?_⟩
      intro H31 eH31
      replace hO := os0 (l' := encTok (⟨((List.getD z0 (Int.toNat z1) 0).toNat : Int), z1, (z1 + (1 : Int)), (0 : Int), (0 : Int), (⟨(0 : Int), (0 : Int), false, false⟩ : RefT)⟩ : TokT)) hO eH31 rfl
      refine ⟨(⟨((List.getD z0 (Int.toNat z1) 0).toNat : Int), z1, (z1 + (1 : Int)), (0 : Int), (0 : Int), (⟨(0 : Int), (0 : Int), false, false⟩ : RefT)⟩ : TokT), (hO.blk (.head _)).rowT rfl, ?_⟩
      refine ⟨(hO.blk (.tail _ (.head _))).wr (Nat.le_of_ble_eq_true rfl), ?_⟩
      intro H32 eH32
      replace hO := oz1 (l' := encTok (⟨((List.getD z0 (Int.toNat z1) 0).toNat : Int), z1, (z1 + (1 : Int)), (0 : Int), (0 : Int), (⟨(0 : Int), (0 : Int), false, false⟩ : RefT)⟩ : TokT)) hO eH32 rfl
      refine ⟨(⟨((List.getD z0 (Int.toNat z1) 0).toNat : Int), z1, (z1 + (1 : Int)), (0 : Int), (0 : Int), (⟨(0 : Int), (0 : Int), false, false⟩ : RefT)⟩ : TokT), (hO.blk (.tail _ (.head _))).rowT rfl, ?_⟩
      obtain rfl := Option.some.inj h
      exact hR _ (dr0 (dr0 (hO)))

    · replace h := ifFd w30 h
      refine ⟨fun w33 => ?_, fun w34 => ?_⟩
      · replace h := ifTd w33 h
        refine ⟨q28.1, q28.2, ?_⟩
        refine ⟨u8ok _, ?_⟩
        refine ⟨(hO.blk (.head _)).wr (Nat.le_of_ble_eq_true rfl), ?_⟩
        intro H35 eH35
        replace hO := os0 (l' := encTok (⟨((List.getD z0 (Int.toNat z1) 0).toNat : Int), z1, (z1 + (1 : Int)), (0 : Int), (0 : Int), (⟨(0 : Int), (0 : Int), false, false⟩ : RefT)⟩ : TokT)) hO eH35 rfl
        refine ⟨(⟨((List.getD z0 (Int.toNat z1) 0).toNat : Int), z1, (z1 + (1 : Int)), (0 : Int), (0 : Int), (⟨(0 : Int), (0 : Int), false, false⟩ : RefT)⟩ : TokT), (hO.blk (.head _)).rowT rfl, ?_⟩
        refine ⟨(hO.blk (.tail _ (.head _))).wr (Nat.le_of_ble_eq_true rfl), ?_⟩
        intro H36 eH36
        replace hO := oz1 (l' := encTok (⟨((List.getD z0 (Int.toNat z1) 0).toNat : Int), z1, (z1 + (1 : Int)), (0 : Int), (0 : Int), (⟨(0 : Int), (0 : Int), false, false⟩ : RefT)⟩ : TokT)) hO eH36 rfl
        refine ⟨(⟨((List.getD z0 (Int.toNat z1) 0).toNat : Int), z1, (z1 + (1 : Int)), (0 : Int), (0 : Int), (⟨(0 : Int), (0 : Int), false, false⟩ : RefT)⟩ : TokT), (hO.blk (.tail _ (.head _))).rowT rfl, ?_⟩
        obtain rfl := Option.some.inj h
        exact hR _ (dr0 (dr0 (hO)))

      · replace h := ifFd w34 h
        refine ⟨fun w37 => ?_, fun w38 => ?_⟩
        · replace h := ifTd w37 h
          refine ⟨q28.1, q28.2, ?_⟩
          refine ⟨u8ok _, ?_⟩
          refine ⟨(hO.blk (.head _)).wr (Nat.le_of_ble_eq_true rfl), ?_⟩
          intro H39 eH39
          replace hO := os0 (l' := encTok (⟨((List.getD z0 (Int.toNat z1) 0).toNat : Int), z1, (z1 + (1 : Int)), (0 : Int), (0 : Int), (⟨(0 : Int), (0 : Int), false, false⟩ : RefT)⟩ : TokT)) hO eH39 rfl
          refine ⟨(⟨((List.getD z0 (Int.toNat z1) 0).toNat : Int), z1, (z1 + (1 : Int)), (0 : Int), (0 : Int), (⟨(0 : Int), (0 : Int), false, false⟩ : RefT)⟩ : TokT), (hO.blk (.head _)).rowT rfl, ?_⟩
          refine ⟨(hO.blk (.tail _ (.head _))).wr (Nat.le_of_ble_eq_true rfl), ?_⟩
          intro H40 eH40
          replace hO := oz1 (l' := encTok (⟨((List.getD z0 (Int.toNat z1) 0).toNat : Int), z1, (z1 + (1 : Int)), (0 : Int), (0 : Int), (⟨(0 : Int), (0 : Int), false, false⟩ : RefT)⟩ : TokT)) hO eH40 rfl
          refine ⟨(⟨((List.getD z0 (Int.toNat z1) 0).toNat : Int), z1, (z1 + (1 : Int)), (0 : Int), (0 : Int), (⟨(0 : Int), (0 : Int), false, false⟩ : RefT)⟩ : TokT), (hO.blk (.tail _ (.head _))).rowT rfl, ?_⟩
          obtain rfl := Option.some.inj h
          exact hR _ (dr0 (dr0 (hO)))

        · replace h := ifFd w38 h
          refine ⟨fun w41 => ?_, fun w42 => ?_⟩
          · replace h := ifTd w41 h
            refine ⟨q28.1, q28.2, ?_⟩
            refine ⟨u8ok _, ?_⟩
            refine ⟨(hO.blk (.head _)).wr (Nat.le_of_ble_eq_true rfl), ?_⟩
            intro H43 eH43
            replace hO := os0 (l' := encTok (⟨((List.getD z0 (Int.toNat z1) 0).toNat : Int), z1, (z1 + (1 : Int)), (0 : Int), (0 : Int), (⟨(0 : Int), (0 : Int), false, false⟩ : RefT)⟩ : TokT)) hO eH43 rfl
            refine ⟨(⟨((List.getD z0 (Int.toNat z1) 0).toNat : Int), z1, (z1 + (1 : Int)), (0 : Int), (0 : Int), (⟨(0 : Int), (0 : Int), false, false⟩ : RefT)⟩ : TokT), (hO.blk (.head _)).rowT rfl, ?_⟩
            refine ⟨(hO.blk (.tail _ (.head _))).wr (Nat.le_of_ble_eq_true rfl), ?_⟩
            intro H44 eH44
            replace hO := oz1 (l' := encTok (⟨((List.getD z0 (Int.toNat z1) 0).toNat : Int), z1, (z1 + (1 : Int)), (0 : Int), (0 : Int), (⟨(0 : Int), (0 : Int), false, false⟩ : RefT)⟩ : TokT)) hO eH44 rfl
            refine ⟨(⟨((List.getD z0 (Int.toNat z1) 0).toNat : Int), z1, (z1 + (1 : Int)), (0 : Int), (0 : Int), (⟨(0 : Int), (0 : Int), false, false⟩ : RefT)⟩ : TokT), (hO.blk (.tail _ (.head _))).rowT rfl, ?_⟩
            obtain rfl := Option.some.inj h
            exact hR _ (dr0 (dr0 (hO)))

          · replace h := ifFd w42 h
            refine ⟨fun w45 => ?_, fun w46 => ?_⟩
            · replace h := ifTd w45 h
              refine ⟨(hO.blk (.head _)).wr (Nat.le_of_ble_eq_true rfl), ?_⟩
              intro H47 eH47
              replace hO := os0 (l' := encTok (⟨(6 : Int), z1, (z1 + (1 : Int)), (0 : Int), (7 : Int), (⟨(0 : Int), (0 : Int), false, false⟩ : RefT)⟩ : TokT)) hO eH47 rfl
              refine ⟨(⟨(6 : Int), z1, (z1 + (1 : Int)), (0 : Int), (7 : Int), (⟨(0 : Int), (0 : Int), false, false⟩ : RefT)⟩ : TokT), (hO.blk (.head _)).rowT rfl, ?_⟩
              refine ⟨(hO.blk (.tail _ (.head _))).wr (Nat.le_of_ble_eq_true rfl), ?_⟩
              intro H48 eH48
              replace hO := oz1 (l' := encTok (⟨(6 : Int), z1, (z1 + (1 : Int)), (0 : Int), (7 : Int), (⟨(0 : Int), (0 : Int), false, false⟩ : RefT)⟩ : TokT)) hO eH48 rfl
              refine ⟨(⟨(6 : Int), z1, (z1 + (1 : Int)), (0 : Int), (7 : Int), (⟨(0 : Int), (0 : Int), false, false⟩ : RefT)⟩ : TokT), (hO.blk (.tail _ (.head _))).rowT rfl, ?_⟩
              obtain rfl := Option.some.inj h
              exact hR _ (dr0 (dr0 (hO)))

            · replace h := ifFd w46 h
              refine ⟨fun w49 => ?_, fun w50 => ?_⟩
              · replace h := ifTd w49 h
                refine ⟨(hO.blk (.head _)).wr (Nat.le_of_ble_eq_true rfl), ?_⟩
                intro H51 eH51
                replace hO := os0 (l' := encTok (⟨(6 : Int), z1, (z1 + (1 : Int)), (0 : Int), (8 : Int), (⟨(0 : Int), (0 : Int), false, false⟩ : RefT)⟩ : TokT)) hO eH51 rfl
                refine ⟨(⟨(6 : Int), z1, (z1 + (1 : Int)), (0 : Int), (8 : Int), (⟨(0 : Int), (0 : Int), false, false⟩ : RefT)⟩ : TokT), (hO.blk (.head _)).rowT rfl, ?_⟩
                refine ⟨(hO.blk (.tail _ (.head _))).wr (Nat.le_of_ble_eq_true rfl), ?_⟩
                intro H52 eH52
                replace hO := oz1 (l' := encTok (⟨(6 : Int), z1, (z1 + (1 : Int)), (0 : Int), (8 : Int), (⟨(0 : Int), (0 : Int), false, false⟩ : RefT)⟩ : TokT)) hO eH52 rfl
                refine ⟨(⟨(6 : Int), z1, (z1 + (1 : Int)), (0 : Int), (8 : Int), (⟨(0 : Int), (0 : Int), false, false⟩ : RefT)⟩ : TokT), (hO.blk (.tail _ (.head _))).rowT rfl, ?_⟩
                obtain rfl := Option.some.inj h
                exact hR _ (dr0 (dr0 (hO)))

              · replace h := ifFd w50 h
                refine ⟨fun w53 => ?_, fun w54 => ?_⟩
                · replace h := ifTd w53 h
                  refine ⟨(hO.blk (.head _)).wr (Nat.le_of_ble_eq_true rfl), ?_⟩
                  intro H55 eH55
                  replace hO := os0 (l' := encTok (⟨(6 : Int), z1, (z1 + (1 : Int)), (0 : Int), (9 : Int), (⟨(0 : Int), (0 : Int), false, false⟩ : RefT)⟩ : TokT)) hO eH55 rfl
                  refine ⟨(⟨(6 : Int), z1, (z1 + (1 : Int)), (0 : Int), (9 : Int), (⟨(0 : Int), (0 : Int), false, false⟩ : RefT)⟩ : TokT), (hO.blk (.head _)).rowT rfl, ?_⟩
                  refine ⟨(hO.blk (.tail _ (.head _))).wr (Nat.le_of_ble_eq_true rfl), ?_⟩
                  intro H56 eH56
                  replace hO := oz1 (l' := encTok (⟨(6 : Int), z1, (z1 + (1 : Int)), (0 : Int), (9 : Int), (⟨(0 : Int), (0 : Int), false, false⟩ : RefT)⟩ : TokT)) hO eH56 rfl
                  refine ⟨(⟨(6 : Int), z1, (z1 + (1 : Int)), (0 : Int), (9 : Int), (⟨(0 : Int), (0 : Int), false, false⟩ : RefT)⟩ : TokT), (hO.blk (.tail _ (.head _))).rowT rfl, ?_⟩
                  obtain rfl := Option.some.inj h
                  exact hR _ (dr0 (dr0 (hO)))

                · replace h := ifFd w54 h
                  refine ⟨fun w57 => ?_, fun w58 => ?_⟩
                  · replace h := ifTd w57 h
                    refine ⟨(hO.blk (.head _)).wr (Nat.le_of_ble_eq_true rfl), ?_⟩
                    intro H59 eH59
                    replace hO := os0 (l' := encTok (⟨(6 : Int), z1, (z1 + (1 : Int)), (0 : Int), (10 : Int), (⟨(0 : Int), (0 : Int), false, false⟩ : RefT)⟩ : TokT)) hO eH59 rfl
                    refine ⟨(⟨(6 : Int), z1, (z1 + (1 : Int)), (0 : Int), (10 : Int), (⟨(0 : Int), (0 : Int), false, false⟩ : RefT)⟩ : TokT), (hO.blk (.head _)).rowT rfl, ?_⟩
                    refine ⟨(hO.blk (.tail _ (.head _))).wr (Nat.le_of_ble_eq_true rfl), ?_⟩
                    intro H60 eH60
                    replace hO := oz1 (l' := encTok (⟨(6 : Int), z1, (z1 + (1 : Int)), (0 : Int), (10 : Int), (⟨(0 : Int), (0 : Int), false, false⟩ : RefT)⟩ : TokT)) hO eH60 rfl
                    refine ⟨(⟨(6 : Int), z1, (z1 + (1 : Int)), (0 : Int), (10 : Int), (⟨(0 : Int), (0 : Int), false, false⟩ : RefT)⟩ : TokT), (hO.blk (.tail _ (.head _))).rowT rfl, ?_⟩
                    obtain rfl := Option.some.inj h
                    exact hR _ (dr0 (dr0 (hO)))

                  · replace h := ifFd w58 h
                    refine ⟨fun w61 => ?_, fun w62 => ?_⟩
                    · replace h := ifTd w61 h
                      refine ⟨(hO.blk (.head _)).wr (Nat.le_of_ble_eq_true rfl), ?_⟩
                      intro H63 eH63
                      replace hO := os0 (l' := encTok (⟨(6 : Int), z1, (z1 + (1 : Int)), (0 : Int), (1 : Int), (⟨(0 : Int), (0 : Int), false, false⟩ : RefT)⟩ : TokT)) hO eH63 rfl
                      refine ⟨(⟨(6 : Int), z1, (z1 + (1 : Int)), (0 : Int), (1 : Int), (⟨(0 : Int), (0 : Int), false, false⟩ : RefT)⟩ : TokT), (hO.blk (.head _)).rowT rfl, ?_⟩
                      refine ⟨(hO.blk (.tail _ (.head _))).wr (Nat.le_of_ble_eq_true rfl), ?_⟩
                      intro H64 eH64
                      replace hO := oz1 (l' := encTok (⟨(6 : Int), z1, (z1 + (1 : Int)), (0 : Int), (1 : Int), (⟨(0 : Int), (0 : Int), false, false⟩ : RefT)⟩ : TokT)) hO eH64 rfl
                      refine ⟨(⟨(6 : Int), z1, (z1 + (1 : Int)), (0 : Int), (1 : Int), (⟨(0 : Int), (0 : Int), false, false⟩ : RefT)⟩ : TokT), (hO.blk (.tail _ (.head _))).rowT rfl, ?_⟩
                      obtain rfl := Option.some.inj h
                      exact hR _ (dr0 (dr0 (hO)))

                    · replace h := ifFd w62 h
                      refine ⟨fun w65 => ?_, fun w66 => ?_⟩
                      · replace h := ifTd w65 h
                        refine ⟨(hO.blk (.head _)).wr (Nat.le_of_ble_eq_true rfl), ?_⟩
                        intro H67 eH67
                        replace hO := os0 (l' := encTok (⟨(6 : Int), z1, (z1 + (1 : Int)), (0 : Int), (3 : Int), (⟨(0 : Int), (0 : Int), false, false⟩ : RefT)⟩ : TokT)) hO eH67 rfl
                        refine ⟨fun w68 => ?_, fun w69 => ?_⟩
                        · replace h := ifTd w68 h
                          obtain ⟨q70, h⟩ := ckS h
                          refine ⟨_, .inl ⟨q70, rfl⟩, ?_⟩
                          refine ⟨(hO.blk (.head _)).wr (Nat.le_of_ble_eq_true rfl), ?_⟩
                          intro H71 eH71
                          replace hO := os0 (l' := encTok (⟨(6 : Int), z1, (z1 + (1 : Int)), (0 : Int), (4 : Int), (⟨(0 : Int), (0 : Int), false, false⟩ : RefT)⟩ : TokT)) hO eH71 rfl
                          refine ⟨(hO.blk (.head _)).wr (Nat.le_of_ble_eq_true rfl), ?_⟩
                          intro H72 eH72
                          replace hO := os0 (l' := encTok (⟨(6 : Int), z1, (z1 + (2 : Int)), (0 : Int), (4 : Int), (⟨(0 : Int), (0 : Int), false, false⟩ : RefT)⟩ : TokT)) hO eH72 rfl
                          refine ⟨(⟨(6 : Int), z1, (z1 + (2 : Int)), (0 : Int), (4 : Int), (⟨(0 : Int), (0 : Int), false, false⟩ : RefT)⟩ : TokT), (hO.blk (.head _)).rowT rfl, ?_⟩
                          refine ⟨(hO.blk (.tail _ (.head _))).wr (Nat.le_of_ble_eq_true rfl), ?_⟩
                          intro H73 eH73
                          replace hO := oz1 (l' := encTok (⟨(6 : Int), z1, (z1 + (2 : Int)), (0 : Int), (4 : Int), (⟨(0 : Int), (0 : Int), false, false⟩ : RefT)⟩ : TokT)) hO eH73 rfl
                          refine ⟨(⟨(6 : Int), z1, (z1 + (2 : Int)), (0 : Int), (4 : Int), (⟨(0 : Int), (0 : Int), false, false⟩ : RefT)⟩ : TokT), (hO.blk (.tail _ (.head _))).rowT rfl, ?_⟩
                          obtain rfl := Option.some.inj h
                          exact hR _ (dr0 (dr0 (hO)))

                        · replace h := ifFd w69 h
                          refine ⟨fun w74 => ?_, fun w75 => ?_⟩
                          · replace h := ifTd w74 h
                            obtain ⟨q76, h⟩ := ckS h
                            refine ⟨_, .inl ⟨q76, rfl⟩, ?_⟩
                            refine ⟨(hO.blk (.head _)).wr (Nat.le_of_ble_eq_true rfl), ?_⟩
                            intro H77 eH77
                            replace hO := os0 (l' := encTok (⟨(6 : Int), z1, (z1 + (1 : Int)), (0 : Int), (2 : Int), (⟨(0 : Int), (0 : Int), false, false⟩ : RefT)⟩ : TokT)) hO eH77 rfl
                            refine ⟨(hO.blk (.head _)).wr (Nat.le_of_ble_eq_true rfl), ?_⟩
                            intro H78 eH78
                            replace hO := os0 (l' := encTok (⟨(6 : Int), z1, (z1 + (2 : Int)), (0 : Int), (2 : Int), (⟨(0 : Int), (0 : Int), false, false⟩ : RefT)⟩ : TokT)) hO eH78 rfl
                            refine ⟨(⟨(6 : Int), z1, (z1 + (2 : Int)), (0 : Int), (2 : Int), (⟨(0 : Int), (0 : Int), false, false⟩ : RefT)⟩ : TokT), (hO.blk (.head _)).rowT rfl, ?_⟩
                            refine ⟨(hO.blk (.tail _ (.head _))).wr (Nat.le_of_ble_eq_true rfl), ?_⟩
                            intro H79 eH79
                            replace hO := oz1 (l' := encTok (⟨(6 : Int), z1, (z1 + (2 : Int)), (0 : Int), (2 : Int), (⟨(0 : Int), (0 : Int), false, false⟩ : RefT)⟩ : TokT)) hO eH79 rfl
                            refine ⟨(⟨(6 : Int), z1, (z1 + (2 : Int)), (0 : Int), (2 : Int), (⟨(0 : Int), (0 : Int), false, false⟩ : RefT)⟩ : TokT), (hO.blk (.tail _ (.head _))).rowT rfl, ?_⟩
                            obtain rfl := Option.some.inj h
                            exact hR _ (dr0 (dr0 (hO)))

                          · replace h := ifFd w75 h
                            refine ⟨(⟨(6 : Int), z1, (z1 + (1 : Int)), (0 : Int), (3 : Int), (⟨(0 : Int), (0 : Int), false, false⟩ : RefT)⟩ : TokT), (hO.blk (.head _)).rowT rfl, ?_⟩
                            refine ⟨(hO.blk (.tail _ (.head _))).wr (Nat.le_of_ble_eq_true rfl), ?_⟩
                            intro H80 eH80
                            replace hO := oz1 (l' := encTok (⟨(6 : Int), z1, (z1 + (1 : Int)), (0 : Int), (3 : Int), (⟨(0 : Int), (0 : Int), false, false⟩ : RefT)⟩ : TokT)) hO eH80 rfl
                            refine ⟨(⟨(6 : Int), z1, (z1 + (1 : Int)), (0 : Int), (3 : Int), (⟨(0 : Int), (0 : Int), false, false⟩ : RefT)⟩ : TokT), (hO.blk (.tail _ (.head _))).rowT rfl, ?_⟩
                            obtain rfl := Option.some.inj h
                            exact hR _ (dr0 (dr0 (hO)))



                      · replace h := ifFd w66 h
                        refine ⟨fun w81 => ?_, fun w82 => ?_⟩
                        · replace h := ifTd w81 h
                          refine ⟨(hO.blk (.head _)).wr (Nat.le_of_ble_eq_true rfl), ?_⟩
                          intro H83 eH83
                          replace hO := os0 (l' := encTok (⟨(6 : Int), z1, (z1 + (1 : Int)), (0 : Int), (5 : Int), (⟨(0 : Int), (0 : Int), false, false⟩ : RefT)⟩ : TokT)) hO eH83 rfl
                          refine ⟨fun w84 => ?_, fun w85 => ?_⟩
                          · replace h := ifTd w84 h
                            obtain ⟨q86, h⟩ := ckS h
                            refine ⟨_, .inl ⟨q86, rfl⟩, ?_⟩
                            refine ⟨(hO.blk (.head _)).wr (Nat.le_of_ble_eq_true rfl), ?_⟩
                            intro H87 eH87
                            replace hO := os0 (l' := encTok (⟨(6 : Int), z1, (z1 + (1 : Int)), (0 : Int), (6 : Int), (⟨(0 : Int), (0 : Int), false, false⟩ : RefT)⟩ : TokT)) hO eH87 rfl
                            refine ⟨(hO.blk (.head _)).wr (Nat.le_of_ble_eq_true rfl), ?_⟩
                            intro H88 eH88
                            replace hO := os0 (l' := encTok (⟨(6 : Int), z1, (z1 + (2 : Int)), (0 : Int), (6 : Int), (⟨(0 : Int), (0 : Int), false, false⟩ : RefT)⟩ : TokT)) hO eH88 rfl
                            refine ⟨(⟨(6 : Int), z1, (z1 + (2 : Int)), (0 : Int), (6 : Int), (⟨(0 : Int), (0 : Int), false, false⟩ : RefT)⟩ : TokT), (hO.blk (.head _)).rowT rfl, ?_⟩
                            refine ⟨(hO.blk (.tail _ (.head _))).wr (Nat.le_of_ble_eq_true rfl), ?_⟩
                            intro H89 eH89
                            replace hO := oz1 (l' := encTok (⟨(6 : Int), z1, (z1 + (2 : Int)), (0 : Int), (6 : Int), (⟨(0 : Int), (0 : Int), false, false⟩ : RefT)⟩ : TokT)) hO eH89 rfl
                            refine ⟨(⟨(6 : Int), z1, (z1 + (2 : Int)), (0 : Int), (6 : Int), (⟨(0 : Int), (0 : Int), false, false⟩ : RefT)⟩ : TokT), (hO.blk (.tail _ (.head _))).rowT rfl, ?_⟩
                            obtain rfl := Option.some.inj h
                            exact hR _ (dr0 (dr0 (hO)))

                          · replace h := ifFd w85 h
                            refine ⟨(⟨(6 : Int), z1, (z1 + (1 : Int)), (0 : Int), (5 : Int), (⟨(0 : Int), (0 : Int), false, false⟩ : RefT)⟩ : TokT), (hO.blk (.head _)).rowT rfl, ?_⟩
                            refine ⟨(hO.blk (.tail _ (.head _))).wr (Nat.le_of_ble_eq_true rfl), ?_⟩
                            intro H90 eH90
                            replace hO := oz1 (l' := encTok (⟨(6 : Int), z1, (z1 + (1 : Int)), (0 : Int), (5 : Int), (⟨(0 : Int), (0 : Int), false, false⟩ : RefT)⟩ : TokT)) hO eH90 rfl
                            refine ⟨(⟨(6 : Int), z1, (z1 + (1 : Int)), (0 : Int), (5 : Int), (⟨(0 : Int), (0 : Int), false, false⟩ : RefT)⟩ : TokT), (hO.blk (.tail _ (.head _))).rowT rfl, ?_⟩
                            obtain rfl := Option.some.inj h
                            exact hR _ (dr0 (dr0 (hO)))


                        · replace h := ifFd w82 h
                          refine ⟨fun w91 => ?_, fun w92 => ?_⟩
                          · replace h := ifTd w91 h
                            refine ⟨(hO.blk (.head _)).wr (Nat.le_of_ble_eq_true rfl), ?_⟩
                            intro H93 eH93
                            replace hO := os0 (l' := encTok (⟨(3 : Int), z1, (z1 + (1 : Int)), (0 : Int), (0 : Int), (⟨(0 : Int), (0 : Int), false, false⟩ : RefT)⟩ : TokT)) hO eH93 rfl
                            refine ⟨(hO.blk (.head _)).wr (Nat.le_of_ble_eq_true rfl), ?_⟩
                            intro H94 eH94
                            replace hO := os0 (l' := encTok (⟨(3 : Int), z1, (z1 + (1 : Int)), (0 : Int), (2 : Int), (⟨(0 : Int), (0 : Int), false, false⟩ : RefT)⟩ : TokT)) hO eH94 rfl
                            refine ⟨fun w95 => ?_, fun w96 => ?_⟩
                            · replace h := ifTd w95 h
                              obtain ⟨q97, h⟩ := ckS h
                              refine ⟨_, .inl ⟨q97, rfl⟩, ?_⟩
                              refine ⟨(hO.blk (.head _)).wr (Nat.le_of_ble_eq_true rfl), ?_⟩
                              intro H98 eH98
                              replace hO := os0 (l' := encTok (⟨(2 : Int), z1, (z1 + (1 : Int)), (0 : Int), (2 : Int), (⟨(0 : Int), (0 : Int), false, false⟩ : RefT)⟩ : TokT)) hO eH98 rfl
                              refine ⟨(hO.blk (.head _)).wr (Nat.le_of_ble_eq_true rfl), ?_⟩
                              intro H99 eH99
                              replace hO := os0 (l' := encTok (⟨(2 : Int), z1, (z1 + (1 : Int)), (5 : Int), (2 : Int), (⟨(0 : Int), (0 : Int), false, false⟩ : RefT)⟩ : TokT)) hO eH99 rfl
                              refine ⟨(hO.blk (.head _)).wr (Nat.le_of_ble_eq_true rfl), ?_⟩
                              intro H100 eH100
                              replace hO := os0 (l' := encTok (⟨(2 : Int), z1, (z1 + (1 : Int)), (5 : Int), (0 : Int), (⟨(0 : Int), (0 : Int), false, false⟩ : RefT)⟩ : TokT)) hO eH100 rfl
                              refine ⟨(hO.blk (.head _)).wr (Nat.le_of_ble_eq_true rfl), ?_⟩
                              intro H101 eH101
                              replace hO := os0 (l' := encTok (⟨(2 : Int), z1, (z1 + (2 : Int)), (5 : Int), (0 : Int), (⟨(0 : Int), (0 : Int), false, false⟩ : RefT)⟩ : TokT)) hO eH101 rfl
                              refine ⟨(⟨(2 : Int), z1, (z1 + (2 : Int)), (5 : Int), (0 : Int), (⟨(0 : Int), (0 : Int), false, false⟩ : RefT)⟩ : TokT), (hO.blk (.head _)).rowT rfl, ?_⟩
                              refine ⟨(hO.blk (.tail _ (.head _))).wr (Nat.le_of_ble_eq_true rfl), ?_⟩
                              intro H102 eH102
                              replace hO := oz1 (l' := encTok (⟨(2 : Int), z1, (z1 + (2 : Int)), (5 : Int), (0 : Int), (⟨(0 : Int), (0 : Int), false, false⟩ : RefT)⟩ : TokT)) hO eH102 rfl
                              refine ⟨(⟨(2 : Int), z1, (z1 + (2 : Int)), (5 : Int), (0 : Int), (⟨(0 : Int), (0 : Int), false, false⟩ : RefT)⟩ : TokT), (hO.blk (.tail _ (.head _))).rowT rfl, ?_⟩
                              obtain rfl := Option.some.inj h
                              exact hR _ (dr0 (dr0 (hO)))

                            · replace h := ifFd w96 h
                              refine ⟨(⟨(3 : Int), z1, (z1 + (1 : Int)), (0 : Int), (2 : Int), (⟨(0 : Int), (0 : Int), false, false⟩ : RefT)⟩ : TokT), (hO.blk (.head _)).rowT rfl, ?_⟩
                              refine ⟨(hO.blk (.tail _ (.head _))).wr (Nat.le_of_ble_eq_true rfl), ?_⟩
                              intro H103 eH103
                              replace hO := oz1 (l' := encTok (⟨(3 : Int), z1, (z1 + (1 : Int)), (0 : Int), (2 : Int), (⟨(0 : Int), (0 : Int), false, false⟩ : RefT)⟩ : TokT)) hO eH103 rfl
                              refine ⟨(⟨(3 : Int), z1, (z1 + (1 : Int)), (0 : Int), (2 : Int), (⟨(0 : Int), (0 : Int), false, false⟩ : RefT)⟩ : TokT), (hO.blk (.tail _ (.head _))).rowT rfl, ?_⟩
                              obtain rfl := Option.some.inj h
                              exact hR _ (dr0 (dr0 (hO)))


                          · replace h := ifFd w92 h
                            refine ⟨(hO.blk (.head _)).wr (Nat.le_of_ble_eq_true rfl), ?_⟩
                            intro H104 eH104
                            replace hO := os0 (l' := encTok (⟨(1 : Int), z1, (z1 + (1 : Int)), (0 : Int), (0 : Int), (⟨(0 : Int), (0 : Int), false, false⟩ : RefT)⟩ : TokT)) hO eH104 rfl
                            refine ⟨(⟨(1 : Int), z1, (z1 + (1 : Int)), (0 : Int), (0 : Int), (⟨(0 : Int), (0 : Int), false, false⟩ : RefT)⟩ : TokT), (hO.blk (.head _)).rowT rfl, ?_⟩
                            refine ⟨(hO.blk (.tail _ (.head _))).wr (Nat.le_of_ble_eq_true rfl), ?_⟩
                            intro H105 eH105
                            replace hO := oz1 (l' := encTok (⟨(1 : Int), z1, (z1 + (1 : Int)), (0 : Int), (0 : Int), (⟨(0 : Int), (0 : Int), false, false⟩ : RefT)⟩ : TokT)) hO eH105 rfl
                            refine ⟨(⟨(1 : Int), z1, (z1 + (1 : Int)), (0 : Int), (0 : Int), (⟨(0 : Int), (0 : Int), false, false⟩ : RefT)⟩ : TokT), (hO.blk (.tail _ (.head _))).rowT rfl, ?_⟩
                            obtain rfl := Option.some.inj h
                            exact hR _ (dr0 (dr0 (hO)))















theorem c138 (n_ : Nat) (z0 : Nat) (L0 : FL) (S0 : FoS) (z1 : List UInt8) (r_ : FoS) (h : s138 n_ S0 z1 = some r_) (F : List Ent) (H : Heap) (R : Value → Heap → Prop)
    (hO : Own H [oF z0 L0 S0] F)
    (hR : ∀ (H' : Heap) , Own H' [oF z0 L0 r_] F → R (.tuple #[]) H') :
    HCalls Tryz.prog 138 #[Value.pointer (some ⟨z0, 0, none⟩), str z1] H R := by
  refine vc138 z0 z1 H R ?_
  unfold s138 at h
  replace hO := open_F (pu0 hO)
  refine ⟨(hO.blk (.head _)).wr (Nat.le_of_ble_eq_true rfl), ?_⟩
  intro H21 eH21
  replace hO := os0 (l' := [Value.slice (some ⟨L0.toks, 0, none⟩) 41 41, I (0 : Int), I S0.k, I S0.pos, Value.slice (some ⟨L0.arena, 0, none⟩) 24 24, I S0.nn, Value.slice (some ⟨L0.opnd, 0, none⟩) 41 41, I S0.nv, Value.slice (some ⟨L0.ops, 0, none⟩) 41 41, I S0.no, Value.bool S0.have_, Value.bool S0.done, I S0.err, I S0.bad, Value.slice (some ⟨L0.notes, 0, none⟩) 24 24, Value.slice (some ⟨L0.out, 0, none⟩) 288 288, I S0.w]) hO eH21 rfl
  replace hO := close_F L0 ({ S0 with nt := (0 : Int) }) (hO)
  refine ⟨fun l Hc => ∃ m : Nat, ∃ S41 : FoS, Own Hc [oF z0 L0 S41] F ∧ (l138_2 n_ z1 m (asI (nth l 0)) S41) = some r_, fun l Hc => Classical.epsilon <| lsp fun m => ∃ S41 : FoS, Own Hc [oF z0 L0 S41] F ∧ (l138_2 n_ z1 m (asI (nth l 0)) S41) = some r_, ?_, ?_⟩
  · exact ⟨n_, ({ S0 with nt := (0 : Int) }), hO, h⟩
  · clear hO h
    intro H42 u43 x44 hJ
    obtain ⟨m101, hm46, hJ⟩ := lst_get hJ
    obtain ⟨S41, hO, h⟩ := hJ
    rcases m101 with _ | k100
    · exact absurd h (by simp [l138_2, asI, asB, asC, asS])
    obtain ⟨rec45, hrec45, h⟩ : ∃ f_, f_ = l138_2 n_ z1 k100 ∧ (l138_2_st n_ z1 f_ x44 S41) = some r_ := ⟨_, rfl, h⟩
    unfold l138_2_st at h
    refine ⟨fun w47 => ?_, fun w48 => ?_⟩
    · replace h := ifTd w47 h
      obtain ⟨q49, h⟩ := ckS h
      refine ⟨q49.1, q49.2, ?_⟩
      refine ⟨fun w50 => ?_, fun w51 => ?_⟩
      · replace h := ifTd w50 h
        obtain ⟨q52, h⟩ := ckS h
        refine ⟨_, .inl ⟨q52, rfl⟩, ?_⟩
        subst hrec45
        exact lst_step hm46 ⟨S41, hO, h⟩

      · replace h := ifFd w51 h
        intro H53 eH53
        replace hO := own_new (l := encTok (⟨(0 : Int), (0 : Int), (0 : Int), (0 : Int), (0 : Int), (⟨(0 : Int), (0 : Int), false, false⟩ : RefT)⟩ : TokT)) hO eH53 rfl
        refine ⟨(hO.blk (.head _)).wr (Nat.le_of_ble_eq_true rfl), ?_⟩
        intro H54 eH54
        replace hO := oz0 (l' := encTok (⟨(0 : Int), (0 : Int), (0 : Int), (0 : Int), (0 : Int), (⟨(0 : Int), (0 : Int), false, false⟩ : RefT)⟩ : TokT)) hO eH54 rfl
        refine ⟨fun l Hc => ∃ t69 : TokT, Own Hc [cellE 194 H42.size (encTok t69), oF z0 L0 S41] F ∧ (k138_1 S41 rec45 t69) = some r_, ?_, ?_⟩
        · refine ⟨q49.1, q49.2, ?_⟩
          refine c163 ((List.getD z1 (Int.toNat x44) 0).toNat : Int) _ rfl _ _ _ (fr0 hO) (fun H77 hO => ?_)
          replace hO := un0 hO
          refine ⟨(s163 ((List.getD z1 (Int.toNat x44) 0).toNat : Int)), rfl, ?_⟩
          refine ⟨fun w78 => ?_, fun w79 => ?_⟩
          · replace h := ifTb w78 h
            obtain ⟨r80, e81, h⟩ := bindS h
            refine c164 n_ z1 x44 r80 e81 _ _ _ (fr0 hO) (fun H82 hO => ?_)
            replace hO := un0 hO
            refine ⟨r80, rfl, ?_⟩
            refine ⟨(hO.blk (.head _)).wr (Nat.le_of_ble_eq_true rfl), ?_⟩
            intro H83 eH83
            replace hO := oz0 (l' := encTok r80) hO eH83 rfl
            exact ⟨r80, hO, h⟩

          · replace h := ifFb w79 h
            refine ⟨q49.1, q49.2, ?_⟩
            refine c165 ((List.getD z1 (Int.toNat x44) 0).toNat : Int) _ rfl _ _ _ (fr0 hO) (fun H84 hO => ?_)
            replace hO := un0 hO
            refine ⟨(s165 ((List.getD z1 (Int.toNat x44) 0).toNat : Int)), rfl, ?_⟩
            refine ⟨fun w85 => ?_, fun w86 => ?_⟩
            · replace h := ifTb w85 h
              obtain ⟨r87, e88, h⟩ := bindS h
              refine c166 n_ z1 x44 r87 e88 _ _ _ (fr0 hO) (fun H89 hO => ?_)
              replace hO := un0 hO
              refine ⟨r87, rfl, ?_⟩
              refine ⟨(hO.blk (.head _)).wr (Nat.le_of_ble_eq_true rfl), ?_⟩
              intro H90 eH90
              replace hO := oz0 (l' := encTok r87) hO eH90 rfl
              exact ⟨r87, hO, h⟩

            · replace h := ifFb w86 h
              obtain ⟨r91, e92, h⟩ := bindS h
              refine c167 z1 x44 r91 e92 _ _ _ (fr0 hO) (fun H93 hO => ?_)
              replace hO := un0 hO
              refine ⟨r91, rfl, ?_⟩
              refine ⟨(hO.blk (.head _)).wr (Nat.le_of_ble_eq_true rfl), ?_⟩
              intro H94 eH94
              replace hO := oz0 (l' := encTok r91) hO eH94 rfl
              exact ⟨r91, hO, h⟩



        · clear hO h
          intro H70 u71  hJ
          obtain ⟨t69, hO, h⟩ := hJ
          replace h : (k138_1 S41 rec45 t69) = some r_ := h
          unfold k138_1 at h
          replace hO := open_F (pu1 hO)
          refine ⟨(some ⟨L0.toks, 0, none⟩), 41, 41, ((hO.blk (.head _)).rdv rfl), ?_⟩
          refine ⟨S41.nt, ((hO.blk (.head _)).rdv rfl), ?_⟩
          refine ⟨t69, (hO.blk (.tail _ (.tail _ (.tail _ (.tail _ (.tail _ (.tail _ (.tail _ (.head _))))))))).rowT rfl, ?_⟩
          obtain ⟨x72, g73, h⟩ := getS h
          refine ⟨_, _, rfl, g73.1, g73.2.1, rfl, ?_⟩
          refine ⟨((hO.arr (.tail _ (.head _))).wr1 lenTok (i := Int.toNat S41.nt) (j := 0) (getLt g73.2.2) (Nat.le_of_ble_eq_true rfl) (zo0 _)), ?_⟩
          intro H74 eH74
          replace hO := oz1 (l' := List.flatMap encTok (List.set S41.toks (Int.toNat S41.nt) t69)) hO eH74 (flat_put1 lenTok (i := Int.toNat S41.nt) (x := t69) (getLt g73.2.2) (Nat.zero_add _))
          refine ⟨S41.nt, ((hO.blk (.head _)).rdv rfl), ?_⟩
          obtain ⟨q75, h⟩ := ckS h
          refine ⟨_, .inl ⟨q75, rfl⟩, ?_⟩
          refine ⟨(hO.blk (.head _)).wr (Nat.le_of_ble_eq_true rfl), ?_⟩
          intro H76 eH76
          replace hO := os0 (l' := [Value.slice (some ⟨L0.toks, 0, none⟩) 41 41, I (S41.nt + (1 : Int)), I S41.k, I S41.pos, Value.slice (some ⟨L0.arena, 0, none⟩) 24 24, I S41.nn, Value.slice (some ⟨L0.opnd, 0, none⟩) 41 41, I S41.nv, Value.slice (some ⟨L0.ops, 0, none⟩) 41 41, I S41.no, Value.bool S41.have_, Value.bool S41.done, I S41.err, I S41.bad, Value.slice (some ⟨L0.notes, 0, none⟩) 24 24, Value.slice (some ⟨L0.out, 0, none⟩) 288 288, I S41.w]) hO eH76 rfl
          refine ⟨t69.end_, ((hO.blk (.tail _ (.tail _ (.tail _ (.tail _ (.tail _ (.tail _ (.tail _ (.head _))))))))).rdv rfl), ?_⟩
          replace hO := close_F L0 ({ S41 with toks := (List.set S41.toks (Int.toNat S41.nt) t69), nt := S41.nt + (1 : Int) }) (hO)
          replace hO := dr1 (hO)
          subst hrec45
          exact lst_step hm46 ⟨({ S41 with toks := (List.set S41.toks (Int.toNat S41.nt) t69), nt := S41.nt + (1 : Int) }), hO, h⟩



    · replace h := ifFd w48 h
      replace hO := open_F (pu0 hO)
      refine ⟨(some ⟨L0.toks, 0, none⟩), 41, 41, ((hO.blk (.head _)).rdv rfl), ?_⟩
      refine ⟨S41.nt, ((hO.blk (.head _)).rdv rfl), ?_⟩
      obtain ⟨x95, g96, h⟩ := getS h
      refine ⟨_, _, rfl, g96.1, g96.2.1, rfl, ?_⟩
      refine ⟨((hO.arr (.tail _ (.head _))).wr1 lenTok (i := Int.toNat S41.nt) (j := 0) (getLt g96.2.2) (Nat.le_of_ble_eq_true rfl) (zo0 _)), ?_⟩
      intro H97 eH97
      replace hO := oz1 (l' := List.flatMap encTok (List.set S41.toks (Int.toNat S41.nt) (⟨(0 : Int), (z1.length : Int), (z1.length : Int), (0 : Int), (0 : Int), (⟨(0 : Int), (0 : Int), false, false⟩ : RefT)⟩ : TokT))) hO eH97 (flat_put1 lenTok (i := Int.toNat S41.nt) (x := (⟨(0 : Int), (z1.length : Int), (z1.length : Int), (0 : Int), (0 : Int), (⟨(0 : Int), (0 : Int), false, false⟩ : RefT)⟩ : TokT)) (getLt g96.2.2) (Nat.zero_add _))
      refine ⟨S41.nt, ((hO.blk (.head _)).rdv rfl), ?_⟩
      obtain ⟨q98, h⟩ := ckS h
      refine ⟨_, .inl ⟨q98, rfl⟩, ?_⟩
      refine ⟨(hO.blk (.head _)).wr (Nat.le_of_ble_eq_true rfl), ?_⟩
      intro H99 eH99
      replace hO := os0 (l' := [Value.slice (some ⟨L0.toks, 0, none⟩) 41 41, I (S41.nt + (1 : Int)), I S41.k, I S41.pos, Value.slice (some ⟨L0.arena, 0, none⟩) 24 24, I S41.nn, Value.slice (some ⟨L0.opnd, 0, none⟩) 41 41, I S41.nv, Value.slice (some ⟨L0.ops, 0, none⟩) 41 41, I S41.no, Value.bool S41.have_, Value.bool S41.done, I S41.err, I S41.bad, Value.slice (some ⟨L0.notes, 0, none⟩) 24 24, Value.slice (some ⟨L0.out, 0, none⟩) 288 288, I S41.w]) hO eH99 rfl
      replace hO := close_F L0 ({ S41 with toks := (List.set S41.toks (Int.toNat S41.nt) (⟨(0 : Int), (z1.length : Int), (z1.length : Int), (0 : Int), (0 : Int), (⟨(0 : Int), (0 : Int), false, false⟩ : RefT)⟩ : TokT)), nt := S41.nt + (1 : Int) }) (hO)
      obtain rfl := Option.some.inj h
      exact hR _ hO




theorem c173 (z0 : Nat) (L0 : FL) (S0 : FoS) (z1 : Int) (z2 : Int) (r_ : FoS) (h : s173 S0 z1 z2 = r_) (F : List Ent) (H : Heap) (R : Value → Heap → Prop)
    (hO : Own H [oF z0 L0 S0] F)
    (hR : ∀ (H' : Heap) , Own H' [oF z0 L0 r_] F → R (.tuple #[]) H') :
    HCalls Tryz.prog 173 #[Value.pointer (some ⟨z0, 0, none⟩), I z1, I z2] H R := by
  refine vc173 z0 z1 z2 H R ?_
  unfold s173 at h
  replace hO := open_F (pu0 hO)
  refine ⟨S0.err, ((hO.blk (.head _)).rdv rfl), ?_⟩
  refine ⟨fun w21 => ?_, fun w22 => ?_⟩
  · replace h := ifTd w21 h
    refine ⟨(hO.blk (.head _)).wr (Nat.le_of_ble_eq_true rfl), ?_⟩
    intro H23 eH23
    replace hO := os0 (l' := [Value.slice (some ⟨L0.toks, 0, none⟩) 41 41, I S0.nt, I S0.k, I S0.pos, Value.slice (some ⟨L0.arena, 0, none⟩) 24 24, I S0.nn, Value.slice (some ⟨L0.opnd, 0, none⟩) 41 41, I S0.nv, Value.slice (some ⟨L0.ops, 0, none⟩) 41 41, I S0.no, Value.bool S0.have_, Value.bool S0.done, I z1, I S0.bad, Value.slice (some ⟨L0.notes, 0, none⟩) 24 24, Value.slice (some ⟨L0.out, 0, none⟩) 288 288, I S0.w]) hO eH23 rfl
    refine ⟨(hO.blk (.head _)).wr (Nat.le_of_ble_eq_true rfl), ?_⟩
    intro H24 eH24
    replace hO := os0 (l' := [Value.slice (some ⟨L0.toks, 0, none⟩) 41 41, I S0.nt, I S0.k, I S0.pos, Value.slice (some ⟨L0.arena, 0, none⟩) 24 24, I S0.nn, Value.slice (some ⟨L0.opnd, 0, none⟩) 41 41, I S0.nv, Value.slice (some ⟨L0.ops, 0, none⟩) 41 41, I S0.no, Value.bool S0.have_, Value.bool S0.done, I z1, I z2, Value.slice (some ⟨L0.notes, 0, none⟩) 24 24, Value.slice (some ⟨L0.out, 0, none⟩) 288 288, I S0.w]) hO eH24 rfl
    replace hO := close_F L0 ({ S0 with err := z1, bad := z2 }) (hO)
    subst h
    exact hR _ hO

  · replace h := ifFd w22 h
    replace hO := close_F L0 S0 (hO)
    subst h
    exact hR _ hO



theorem c168 (z0 : Nat) (L0 : FL) (S0 : FoS) (r_ : FoS × TokT) (h : s168 S0 = some r_) (F : List Ent) (H : Heap) (R : Value → Heap → Prop)
    (hO : Own H [oF z0 L0 S0] F)
    (hR : ∀ (H' : Heap) , Own H' [oF z0 L0 r_.1] F → R (.agg ⟨encTok r_.2⟩) H') :
    HCalls Tryz.prog 168 #[Value.pointer (some ⟨z0, 0, none⟩)] H R := by
  refine vc168 z0 H R ?_
  unfold s168 at h
  intro H21 eH21
  replace hO := own_new (l := encTok (⟨(0 : Int), (0 : Int), (0 : Int), (0 : Int), (0 : Int), (⟨(0 : Int), (0 : Int), false, false⟩ : RefT)⟩ : TokT)) hO eH21 rfl
  replace hO := open_F (pu1 hO)
  refine ⟨(some ⟨L0.toks, 0, none⟩), 41, 41, ((hO.blk (.head _)).rdv rfl), ?_⟩
  refine ⟨S0.k, ((hO.blk (.head _)).rdv rfl), ?_⟩
  obtain ⟨x22, g23, h⟩ := getS h
  refine ⟨_, _, rfl, g23.1, g23.2.1, rfl, ?_⟩
  refine ⟨x22, (hO.arr (.tail _ (.head _))).row (i := Int.toNat S0.k) lenTok g23.2.2 (Nat.zero_add _), ?_⟩
  intro H24 eH24
  replace hO := own_new (l := encTok (⟨(0 : Int), (0 : Int), (0 : Int), (0 : Int), (0 : Int), (⟨(0 : Int), (0 : Int), false, false⟩ : RefT)⟩ : TokT)) hO eH24 rfl
  refine ⟨(hO.blk (.head _)).wr (Nat.le_of_ble_eq_true rfl), ?_⟩
  intro H25 eH25
  replace hO := oz0 (l' := encTok x22) hO eH25 rfl
  refine ⟨x22.at_, ((hO.blk (.head _)).rdv rfl), ?_⟩
  refine ⟨(hO.blk (.tail _ (.head _))).wr (Nat.le_of_ble_eq_true rfl), ?_⟩
  intro H26 eH26
  replace hO := os1 (l' := [Value.slice (some ⟨L0.toks, 0, none⟩) 41 41, I S0.nt, I S0.k, I x22.at_, Value.slice (some ⟨L0.arena, 0, none⟩) 24 24, I S0.nn, Value.slice (some ⟨L0.opnd, 0, none⟩) 41 41, I S0.nv, Value.slice (some ⟨L0.ops, 0, none⟩) 41 41, I S0.no, Value.bool S0.have_, Value.bool S0.done, I S0.err, I S0.bad, Value.slice (some ⟨L0.notes, 0, none⟩) 24 24, Value.slice (some ⟨L0.out, 0, none⟩) 288 288, I S0.w]) hO eH26 rfl
  refine ⟨x22.kind, ((hO.blk (.head _)).rdv rfl), ?_⟩
  refine ⟨fun w27 => ?_, fun w28 => ?_⟩
  · replace h := ifTd w27 h
    refine ⟨x22.at_, ((hO.blk (.head _)).rdv rfl), ?_⟩
    replace hO := close_F L0 ({ S0 with pos := x22.at_ }) (pu7 (pu7 (pu7 (pu7 (pu7 (pu7 (pu7 hO)))))))
    refine c173 z0 L0 ({ S0 with pos := x22.at_ }) (2 : Int) x22.at_ _ rfl _ _ _ (fr1 hO) (fun H29 hO => ?_)
    replace hO := un1 hO
    refine ⟨x22, (hO.blk (.tail _ (.head _))).rowT rfl, ?_⟩
    refine ⟨(hO.blk (.tail _ (.tail _ (.head _)))).wr (Nat.le_of_ble_eq_true rfl), ?_⟩
    intro H30 eH30
    replace hO := oz2 (l' := encTok x22) hO eH30 rfl
    refine ⟨x22, (hO.blk (.tail _ (.tail _ (.head _)))).rowT rfl, ?_⟩
    obtain rfl := Option.some.inj h
    exact hR _ (dr1 (dr1 (hO)))

  · replace h := ifFd w28 h
    refine ⟨x22, (hO.blk (.head _)).rowT rfl, ?_⟩
    refine ⟨(hO.blk (.tail _ (.tail _ (.tail _ (.tail _ (.tail _ (.tail _ (.tail _ (.tail _ (.head _)))))))))).wr (Nat.le_of_ble_eq_true rfl), ?_⟩
    intro H31 eH31
    replace hO := oz8 (l' := encTok x22) hO eH31 rfl
    refine ⟨x22, (hO.blk (.tail _ (.tail _ (.tail _ (.tail _ (.tail _ (.tail _ (.tail _ (.tail _ (.head _)))))))))).rowT rfl, ?_⟩
    replace hO := close_F L0 ({ S0 with pos := x22.at_ }) (pu7 (pu7 (pu7 (pu7 (pu7 (pu7 (pu7 hO)))))))
    obtain rfl := Option.some.inj h
    exact hR _ (dr1 (dr1 (hO)))



theorem c169 (z0 : Int) (r_ : Int) (h : s169 z0 = r_) (F : List Ent) (H : Heap) (R : Value → Heap → Prop)
    (hO : Own H [] F)
    (hR : ∀ (H' : Heap) , Own H' [] F → R (I r_) H') :
    HCalls Tryz.prog 169 #[I z0] H R := by
  refine vc169 z0 H R ?_
  unfold s169 at h
  refine ⟨fun w21 => ?_, fun w22 => ?_⟩
  · replace h := ifTd w21 h
    subst h
    exact hR _ hO

  · replace h := ifFd w22 h
    refine ⟨fun w23 => ?_, fun w24 => ?_⟩
    · replace h := ifTd w23 h
      subst h
      exact hR _ hO

    · replace h := ifFd w24 h
      subst h
      exact hR _ hO




theorem c170 (z0 : Nat) (L0 : FL) (S0 : FoS) (r_ : Int) (h : s170 S0 = some r_) (F : List Ent) (H : Heap) (R : Value → Heap → Prop)
    (hO : Own H [oF z0 L0 S0] F)
    (hR : ∀ (H' : Heap) , Own H' [oF z0 L0 S0] F → R (I r_) H') :
    HCalls Tryz.prog 170 #[Value.pointer (some ⟨z0, 0, none⟩)] H R := by
  refine vc170 z0 H R ?_
  unfold s170 at h
  replace hO := open_F (pu0 hO)
  refine ⟨S0.no, ((hO.blk (.head _)).rdv rfl), ?_⟩
  refine ⟨fun w22 => ?_, fun w21 => ?_⟩
  · replace h := ifFd w22 h
    refine ⟨(some ⟨L0.ops, 0, none⟩), 41, 41, ((hO.blk (.head _)).rdv rfl), ?_⟩
    refine ⟨S0.no, ((hO.blk (.head _)).rdv rfl), ?_⟩
    obtain ⟨q23, h⟩ := ckS h
    refine ⟨q23, ?_⟩
    obtain ⟨x24, g25, h⟩ := getS h
    refine ⟨_, _, rfl, g25.1, g25.2.1, rfl, ?_⟩
    refine ⟨x24.kind, ((hO.arr (.tail _ (.tail _ (.tail _ (.tail _ (.head _)))))).rd (i := Int.toNat (S0.no - (1 : Int))) (j := 0) lenMark g25.2.2 (by decide) (zo0 _) rfl), ?_⟩
    refine ⟨fun w26 => ?_, fun w27 => ?_⟩
    · replace w26 := bnotT w26
      replace h := ifFd w26 h
      replace hO := close_F L0 S0 (hO)
      obtain rfl := Option.some.inj h
      exact hR _ hO

    · replace w27 := bnotF w27
      replace h := ifTd w27 h
      refine ⟨(some ⟨L0.ops, 0, none⟩), 41, 41, ((hO.blk (.head _)).rdv rfl), ?_⟩
      refine ⟨S0.no, ((hO.blk (.head _)).rdv rfl), ?_⟩
      refine ⟨q23, ?_⟩
      refine ⟨_, _, rfl, g25.1, g25.2.1, rfl, ?_⟩
      refine ⟨x24.op, ((hO.arr (.tail _ (.tail _ (.tail _ (.tail _ (.head _)))))).rd (i := Int.toNat (S0.no - (1 : Int))) (j := 1) lenMark g25.2.2 (by decide) (zo _ 1) rfl), ?_⟩
      refine c169 x24.op _ rfl _ _ _ (fr0 hO) (fun H28 hO => ?_)
      replace hO := un0 hO
      refine ⟨(s169 x24.op), rfl, ?_⟩
      replace hO := close_F L0 S0 (hO)
      obtain rfl := Option.some.inj h
      exact hR _ hO


  · replace h := ifTd w21 h
    replace hO := close_F L0 S0 (hO)
    obtain rfl := Option.some.inj h
    exact hR _ hO



theorem c206 (z0 : Nat) (L0 : FL) (S0 : FoS) (z1 : NodeT) (r_ : FoS × Int) (h : s206 S0 z1 = some r_) (F : List Ent) (H : Heap) (R : Value → Heap → Prop)
    (hO : Own H [oF z0 L0 S0] F)
    (hR : ∀ (H' : Heap) , Own H' [oF z0 L0 r_.1] F → R (I r_.2) H') :
    HCalls Tryz.prog 206 #[Value.pointer (some ⟨z0, 0, none⟩), Value.agg ⟨encNode z1⟩] H R := by
  refine vc206 z0 z1 H R ?_
  unfold s206 at h
  intro H21 eH21
  replace hO := own_new (l := encNode z1) hO eH21 rfl
  replace hO := open_F (pu1 hO)
  refine ⟨S0.err, ((hO.blk (.head _)).rdv rfl), ?_⟩
  refine ⟨fun w22 => ?_, fun w23 => ?_⟩
  · replace w22 := bnotT w22
    replace h := ifFd w22 h
    replace hO := close_F L0 S0 (hO)
    obtain rfl := Option.some.inj h
    exact hR _ (dr1 (hO))

  · replace w23 := bnotF w23
    replace h := ifTd w23 h
    refine ⟨S0.nn, ((hO.blk (.head _)).rdv rfl), ?_⟩
    refine ⟨fun w24 => ?_, fun w25 => ?_⟩
    · replace h := ifTd w24 h
      refine ⟨S0.pos, ((hO.blk (.head _)).rdv rfl), ?_⟩
      replace hO := close_F L0 S0 (hO)
      refine c173 z0 L0 S0 (7 : Int) S0.pos _ rfl _ _ _ (fr1 hO) (fun H26 hO => ?_)
      replace hO := un1 hO
      obtain rfl := Option.some.inj h
      exact hR _ (dr1 (hO))

    · replace h := ifFd w25 h
      refine ⟨(some ⟨L0.arena, 0, none⟩), 24, 24, ((hO.blk (.head _)).rdv rfl), ?_⟩
      refine ⟨S0.nn, ((hO.blk (.head _)).rdv rfl), ?_⟩
      refine ⟨z1, (hO.blk (.tail _ (.tail _ (.tail _ (.tail _ (.tail _ (.tail _ (.tail _ (.head _))))))))).rowT rfl, ?_⟩
      obtain ⟨x27, g28, h⟩ := getS h
      refine ⟨_, _, rfl, g28.1, g28.2.1, rfl, ?_⟩
      refine ⟨((hO.arr (.tail _ (.tail _ (.head _)))).wr1 lenNode (i := Int.toNat S0.nn) (j := 0) (getLt g28.2.2) (Nat.le_of_ble_eq_true rfl) (zo0 _)), ?_⟩
      intro H29 eH29
      replace hO := oz2 (l' := List.flatMap encNode (List.set S0.arena (Int.toNat S0.nn) z1)) hO eH29 (flat_put1 lenNode (i := Int.toNat S0.nn) (x := z1) (getLt g28.2.2) (Nat.zero_add _))
      refine ⟨S0.nn, ((hO.blk (.head _)).rdv rfl), ?_⟩
      obtain ⟨q30, h⟩ := ckS h
      refine ⟨_, .inl ⟨q30, rfl⟩, ?_⟩
      refine ⟨(hO.blk (.head _)).wr (Nat.le_of_ble_eq_true rfl), ?_⟩
      intro H31 eH31
      replace hO := os0 (l' := [Value.slice (some ⟨L0.toks, 0, none⟩) 41 41, I S0.nt, I S0.k, I S0.pos, Value.slice (some ⟨L0.arena, 0, none⟩) 24 24, I (S0.nn + (1 : Int)), Value.slice (some ⟨L0.opnd, 0, none⟩) 41 41, I S0.nv, Value.slice (some ⟨L0.ops, 0, none⟩) 41 41, I S0.no, Value.bool S0.have_, Value.bool S0.done, I S0.err, I S0.bad, Value.slice (some ⟨L0.notes, 0, none⟩) 24 24, Value.slice (some ⟨L0.out, 0, none⟩) 288 288, I S0.w]) hO eH31 rfl
      refine ⟨(S0.nn + (1 : Int)), ((hO.blk (.head _)).rdv rfl), ?_⟩
      obtain ⟨q32, h⟩ := ckS h
      refine ⟨q32, ?_⟩
      replace hO := close_F L0 ({ S0 with arena := (List.set S0.arena (Int.toNat S0.nn) z1), nn := S0.nn + (1 : Int) }) (hO)
      obtain rfl := Option.some.inj h
      exact hR _ (dr1 (hO))



theorem frame206 {S : FoS} {x : NodeT} {r : FoS × Int} (h : s206 S x = some r) : r.1 = { S with arena := r.1.arena, nn := r.1.nn, err := r.1.err, bad := r.1.bad } := by
  unfold s206 at h
  split at h
  · split at h
    · obtain rfl := Option.some.inj h
      unfold s173
      split <;> rfl
    · obtain ⟨y, g, h⟩ := getS h
      obtain ⟨q, h⟩ := ckS h
      obtain ⟨q, h⟩ := ckS h
      obtain rfl := Option.some.inj h
      rfl
  · obtain rfl := Option.some.inj h
    rfl

theorem c171 (z0 : Nat) (L0 : FL) (S0 : FoS) (r_ : FoS) (h : s171 S0 = some r_) (F : List Ent) (H : Heap) (R : Value → Heap → Prop)
    (hO : Own H [oF z0 L0 S0] F)
    (hR : ∀ (H' : Heap) , Own H' [oF z0 L0 r_] F → R (.tuple #[]) H') :
    HCalls Tryz.prog 171 #[Value.pointer (some ⟨z0, 0, none⟩)] H R := by
  refine vc171 z0 H R ?_
  unfold s171 at h
  replace hO := open_F (pu0 hO)
  refine ⟨S0.no, ((hO.blk (.head _)).rdv rfl), ?_⟩
  obtain ⟨q21, h⟩ := ckS h
  refine ⟨q21, ?_⟩
  refine ⟨(hO.blk (.head _)).wr (Nat.le_of_ble_eq_true rfl), ?_⟩
  intro H22 eH22
  replace hO := os0 (l' := [Value.slice (some ⟨L0.toks, 0, none⟩) 41 41, I S0.nt, I S0.k, I S0.pos, Value.slice (some ⟨L0.arena, 0, none⟩) 24 24, I S0.nn, Value.slice (some ⟨L0.opnd, 0, none⟩) 41 41, I S0.nv, Value.slice (some ⟨L0.ops, 0, none⟩) 41 41, I (S0.no - (1 : Int)), Value.bool S0.have_, Value.bool S0.done, I S0.err, I S0.bad, Value.slice (some ⟨L0.notes, 0, none⟩) 24 24, Value.slice (some ⟨L0.out, 0, none⟩) 288 288, I S0.w]) hO eH22 rfl
  refine ⟨S0.nv, ((hO.blk (.head _)).rdv rfl), ?_⟩
  obtain ⟨q23, h⟩ := ckS h
  refine ⟨q23, ?_⟩
  refine ⟨(hO.blk (.head _)).wr (Nat.le_of_ble_eq_true rfl), ?_⟩
  intro H24 eH24
  replace hO := os0 (l' := [Value.slice (some ⟨L0.toks, 0, none⟩) 41 41, I S0.nt, I S0.k, I S0.pos, Value.slice (some ⟨L0.arena, 0, none⟩) 24 24, I S0.nn, Value.slice (some ⟨L0.opnd, 0, none⟩) 41 41, I (S0.nv - (1 : Int)), Value.slice (some ⟨L0.ops, 0, none⟩) 41 41, I (S0.no - (1 : Int)), Value.bool S0.have_, Value.bool S0.done, I S0.err, I S0.bad, Value.slice (some ⟨L0.notes, 0, none⟩) 24 24, Value.slice (some ⟨L0.out, 0, none⟩) 288 288, I S0.w]) hO eH24 rfl
  refine ⟨(some ⟨L0.ops, 0, none⟩), 41, 41, ((hO.blk (.head _)).rdv rfl), ?_⟩
  refine ⟨(S0.no - (1 : Int)), ((hO.blk (.head _)).rdv rfl), ?_⟩
  obtain ⟨x25, g26, h⟩ := getS h
  refine ⟨_, _, rfl, g26.1, g26.2.1, rfl, ?_⟩
  refine ⟨x25.op, ((hO.arr (.tail _ (.tail _ (.tail _ (.tail _ (.head _)))))).rd (i := Int.toNat (S0.no - (1 : Int))) (j := 1) lenMark g26.2.2 (by decide) (zo _ 1) rfl), ?_⟩
  refine ⟨(some ⟨L0.opnd, 0, none⟩), 41, 41, ((hO.blk (.head _)).rdv rfl), ?_⟩
  refine ⟨(S0.nv - (1 : Int)), ((hO.blk (.head _)).rdv rfl), ?_⟩
  obtain ⟨q27, h⟩ := ckS h
  refine ⟨q27, ?_⟩
  obtain ⟨x28, g29, h⟩ := getS h
  refine ⟨_, _, rfl, g29.1, g29.2.1, rfl, ?_⟩
  refine ⟨x28, ((hO.arr (.tail _ (.tail _ (.tail _ (.head _))))).rd (i := Int.toNat ((S0.nv - (1 : Int)) - (1 : Int))) (j := 0) lenI g29.2.2 (by decide) (zo0 _) rfl), ?_⟩
  refine ⟨(some ⟨L0.opnd, 0, none⟩), 41, 41, ((hO.blk (.head _)).rdv rfl), ?_⟩
  refine ⟨(S0.nv - (1 : Int)), ((hO.blk (.head _)).rdv rfl), ?_⟩
  obtain ⟨x30, g31, h⟩ := getS h
  refine ⟨_, _, rfl, g31.1, g31.2.1, rfl, ?_⟩
  refine ⟨x30, ((hO.arr (.tail _ (.tail _ (.tail _ (.head _))))).rd (i := Int.toNat (S0.nv - (1 : Int))) (j := 0) lenI g31.2.2 (by decide) (zo0 _) rfl), ?_⟩
  replace hO := close_F L0 ({ S0 with nv := S0.nv - (1 : Int), no := S0.no - (1 : Int) }) (hO)
  obtain ⟨r32, e33, h⟩ := bindS h
  refine c206 z0 L0 ({ S0 with nv := S0.nv - (1 : Int), no := S0.no - (1 : Int) }) (⟨(7 : Int), x25.op, x28, x30, (0 : Int), (⟨(0 : Int), (0 : Int), false, false⟩ : RefT), (⟨(0 : Int), (0 : Int), false, false⟩ : RefT)⟩ : NodeT) r32 e33 _ _ _ (fr1 hO) (fun H34 hO => ?_)
  replace hO := un1 hO
  rw [frame206 e33] at hO
  refine ⟨r32.2, rfl, ?_⟩
  replace hO := open_F (pu0 hO)
  refine ⟨(some ⟨L0.opnd, 0, none⟩), 41, 41, ((hO.blk (.head _)).rdv rfl), ?_⟩
  refine ⟨(S0.nv - (1 : Int)), ((hO.blk (.head _)).rdv rfl), ?_⟩
  refine ⟨q27, ?_⟩
  refine ⟨_, _, rfl, g29.1, g29.2.1, rfl, ?_⟩
  refine ⟨((hO.arr (.tail _ (.tail _ (.tail _ (.head _))))).wr1 lenI (i := Int.toNat ((S0.nv - (1 : Int)) - (1 : Int))) (j := 0) (getLt g29.2.2) (Nat.le_of_ble_eq_true rfl) (zo0 _)), ?_⟩
  intro H35 eH35
  replace hO := os3 (l' := List.flatMap encI (List.set S0.opnd (Int.toNat ((S0.nv - (1 : Int)) - (1 : Int))) r32.2)) hO eH35 (flat_set1 lenI (i := Int.toNat ((S0.nv - (1 : Int)) - (1 : Int))) (j := 0) g29.2.2 (by decide) (zo0 _) rfl)
  replace hO := close_F L0 ({ S0 with arena := r32.1.arena, nn := r32.1.nn, opnd := (List.set S0.opnd (Int.toNat ((S0.nv - (1 : Int)) - (1 : Int))) r32.2), nv := S0.nv - (1 : Int), no := S0.no - (1 : Int), err := r32.1.err, bad := r32.1.bad }) (hO)
  obtain rfl := Option.some.inj h
  exact hR _ hO


theorem c174 (z0 : Nat) (L0 : FL) (S0 : FoS) (r_ : FoS) (h : s174 S0 = some r_) (F : List Ent) (H : Heap) (R : Value → Heap → Prop)
    (hO : Own H [oF z0 L0 S0] F)
    (hR : ∀ (H' : Heap) , Own H' [oF z0 L0 r_] F → R (.tuple #[]) H') :
    HCalls Tryz.prog 174 #[Value.pointer (some ⟨z0, 0, none⟩)] H R := by
  refine vc174 z0 H R ?_
  unfold s174 at h
  replace hO := open_F (pu0 hO)
  refine ⟨(some ⟨L0.toks, 0, none⟩), 41, 41, ((hO.blk (.head _)).rdv rfl), ?_⟩
  refine ⟨S0.k, ((hO.blk (.head _)).rdv rfl), ?_⟩
  obtain ⟨x21, g22, h⟩ := getS h
  refine ⟨_, _, rfl, g22.1, g22.2.1, rfl, ?_⟩
  refine ⟨x21.end_, ((hO.arr (.tail _ (.head _))).rd (i := Int.toNat S0.k) (j := 2) lenTok g22.2.2 (by decide) (zo _ 2) rfl), ?_⟩
  refine ⟨(hO.blk (.head _)).wr (Nat.le_of_ble_eq_true rfl), ?_⟩
  intro H23 eH23
  replace hO := os0 (l' := [Value.slice (some ⟨L0.toks, 0, none⟩) 41 41, I S0.nt, I S0.k, I x21.end_, Value.slice (some ⟨L0.arena, 0, none⟩) 24 24, I S0.nn, Value.slice (some ⟨L0.opnd, 0, none⟩) 41 41, I S0.nv, Value.slice (some ⟨L0.ops, 0, none⟩) 41 41, I S0.no, Value.bool S0.have_, Value.bool S0.done, I S0.err, I S0.bad, Value.slice (some ⟨L0.notes, 0, none⟩) 24 24, Value.slice (some ⟨L0.out, 0, none⟩) 288 288, I S0.w]) hO eH23 rfl
  refine ⟨S0.k, ((hO.blk (.head _)).rdv rfl), ?_⟩
  obtain ⟨q24, h⟩ := ckS h
  refine ⟨_, .inl ⟨q24, rfl⟩, ?_⟩
  refine ⟨(hO.blk (.head _)).wr (Nat.le_of_ble_eq_true rfl), ?_⟩
  intro H25 eH25
  replace hO := os0 (l' := [Value.slice (some ⟨L0.toks, 0, none⟩) 41 41, I S0.nt, I (S0.k + (1 : Int)), I x21.end_, Value.slice (some ⟨L0.arena, 0, none⟩) 24 24, I S0.nn, Value.slice (some ⟨L0.opnd, 0, none⟩) 41 41, I S0.nv, Value.slice (some ⟨L0.ops, 0, none⟩) 41 41, I S0.no, Value.bool S0.have_, Value.bool S0.done, I S0.err, I S0.bad, Value.slice (some ⟨L0.notes, 0, none⟩) 24 24, Value.slice (some ⟨L0.out, 0, none⟩) 288 288, I S0.w]) hO eH25 rfl
  replace hO := close_F L0 ({ S0 with k := S0.k + (1 : Int), pos := x21.end_ }) (hO)
  obtain rfl := Option.some.inj h
  exact hR _ hO


theorem c207 (n_ : Nat) (z0 : Nat) (L0 : FL) (S0 : FoS) (r_ : FoS) (h : s207 n_ S0 = some r_) (F : List Ent) (H : Heap) (R : Value → Heap → Prop)
    (hO : Own H [oF z0 L0 S0] F)
    (hR : ∀ (H' : Heap) , Own H' [oF z0 L0 r_] F → R (.tuple #[]) H') :
    HCalls Tryz.prog 207 #[Value.pointer (some ⟨z0, 0, none⟩)] H R := by
  refine vc207 z0 H R ?_
  unfold s207 at h
  refine ⟨fun l Hc => ∃ m : Nat, ∃ S40 : FoS, Own Hc [oF z0 L0 S40] F ∧ (l207_4 n_ m S40) = some r_, fun l Hc => Classical.epsilon <| lsp fun m => ∃ S40 : FoS, Own Hc [oF z0 L0 S40] F ∧ (l207_4 n_ m S40) = some r_, ?_, ?_⟩
  · exact ⟨n_, S0, hO, h⟩
  · clear hO h
    intro H41 u42  hJ
    obtain ⟨m107, hm44, hJ⟩ := lst_get hJ
    obtain ⟨S40, hO, h⟩ := hJ
    rcases m107 with _ | k106
    · exact absurd h (by simp [l207_4, asI, asB, asC, asS])
    obtain ⟨rec43, hrec43, h⟩ : ∃ f_, f_ = l207_4 n_ k106 ∧ (l207_4_st n_ f_ S40) = some r_ := ⟨_, rfl, h⟩
    unfold l207_4_st at h
    replace hO := open_F (pu0 hO)
    refine ⟨S40.no, ((hO.blk (.head _)).rdv rfl), ?_⟩
    refine ⟨fun w45 => ?_, fun w46 => ?_⟩
    · replace h := ifTd w45 h
      refine ⟨(some ⟨L0.ops, 0, none⟩), 41, 41, ((hO.blk (.head _)).rdv rfl), ?_⟩
      refine ⟨S40.no, ((hO.blk (.head _)).rdv rfl), ?_⟩
      obtain ⟨q47, h⟩ := ckS h
      refine ⟨q47, ?_⟩
      obtain ⟨x48, g49, h⟩ := getS h
      refine ⟨_, _, rfl, g49.1, g49.2.1, rfl, ?_⟩
      refine ⟨x48.kind, ((hO.arr (.tail _ (.tail _ (.tail _ (.tail _ (.head _)))))).rd (i := Int.toNat (S40.no - (1 : Int))) (j := 0) lenMark g49.2.2 (by decide) (zo0 _) rfl), ?_⟩
      refine ⟨fun w50 => ?_, fun w51 => ?_⟩
      · replace h := ifTd w50 h
        refine ⟨S40.no, ((hO.blk (.head _)).rdv rfl), ?_⟩
        refine ⟨q47, ?_⟩
        refine ⟨(hO.blk (.head _)).wr (Nat.le_of_ble_eq_true rfl), ?_⟩
        intro H52 eH52
        replace hO := os0 (l' := [Value.slice (some ⟨L0.toks, 0, none⟩) 41 41, I S40.nt, I S40.k, I S40.pos, Value.slice (some ⟨L0.arena, 0, none⟩) 24 24, I S40.nn, Value.slice (some ⟨L0.opnd, 0, none⟩) 41 41, I S40.nv, Value.slice (some ⟨L0.ops, 0, none⟩) 41 41, I (S40.no - (1 : Int)), Value.bool S40.have_, Value.bool S40.done, I S40.err, I S40.bad, Value.slice (some ⟨L0.notes, 0, none⟩) 24 24, Value.slice (some ⟨L0.out, 0, none⟩) 288 288, I S40.w]) hO eH52 rfl
        refine ⟨(some ⟨L0.opnd, 0, none⟩), 41, 41, ((hO.blk (.head _)).rdv rfl), ?_⟩
        refine ⟨S40.nv, ((hO.blk (.head _)).rdv rfl), ?_⟩
        obtain ⟨q53, h⟩ := ckS h
        refine ⟨q53, ?_⟩
        obtain ⟨x54, g55, h⟩ := getS h
        refine ⟨_, _, rfl, g55.1, g55.2.1, rfl, ?_⟩
        refine ⟨x54, ((hO.arr (.tail _ (.tail _ (.tail _ (.head _))))).rd (i := Int.toNat (S40.nv - (1 : Int))) (j := 0) lenI g55.2.2 (by decide) (zo0 _) rfl), ?_⟩
        replace hO := close_F L0 ({ S40 with no := S40.no - (1 : Int) }) (hO)
        obtain ⟨r56, e57, h⟩ := bindS h
        refine c206 z0 L0 ({ S40 with no := S40.no - (1 : Int) }) (⟨(6 : Int), (0 : Int), x54, (-1 : Int), (0 : Int), (⟨(0 : Int), (0 : Int), false, false⟩ : RefT), (⟨(0 : Int), (0 : Int), false, false⟩ : RefT)⟩ : NodeT) r56 e57 _ _ _ (fr1 hO) (fun H58 hO => ?_)
        replace hO := un1 hO
        rw [frame206 e57] at hO
        refine ⟨r56.2, rfl, ?_⟩
        replace hO := open_F (pu0 hO)
        refine ⟨(some ⟨L0.opnd, 0, none⟩), 41, 41, ((hO.blk (.head _)).rdv rfl), ?_⟩
        refine ⟨S40.nv, ((hO.blk (.head _)).rdv rfl), ?_⟩
        refine ⟨q53, ?_⟩
        refine ⟨_, _, rfl, g55.1, g55.2.1, rfl, ?_⟩
        refine ⟨((hO.arr (.tail _ (.tail _ (.tail _ (.head _))))).wr1 lenI (i := Int.toNat (S40.nv - (1 : Int))) (j := 0) (getLt g55.2.2) (Nat.le_of_ble_eq_true rfl) (zo0 _)), ?_⟩
        intro H59 eH59
        replace hO := os3 (l' := List.flatMap encI (List.set S40.opnd (Int.toNat (S40.nv - (1 : Int))) r56.2)) hO eH59 (flat_set1 lenI (i := Int.toNat (S40.nv - (1 : Int))) (j := 0) g55.2.2 (by decide) (zo0 _) rfl)
        replace hO := close_F L0 ({ S40 with arena := r56.1.arena, nn := r56.1.nn, opnd := (List.set S40.opnd (Int.toNat (S40.nv - (1 : Int))) r56.2), no := S40.no - (1 : Int), err := r56.1.err, bad := r56.1.bad }) (hO)
        subst hrec43
        exact lst_step hm44 ⟨({ S40 with arena := r56.1.arena, nn := r56.1.nn, opnd := (List.set S40.opnd (Int.toNat (S40.nv - (1 : Int))) r56.2), no := S40.no - (1 : Int), err := r56.1.err, bad := r56.1.bad }), hO, h⟩

      · replace h := ifFd w51 h
        replace hO := close_F L0 S40 (hO)
        refine ⟨fun l Hc => ∃ S71 : FoS, Own Hc [oF z0 L0 S71] F ∧ (k207_1 S71) = some r_, ?_, ?_⟩
        · obtain ⟨r75, e76, h⟩ := bindS h
          refine c170 z0 L0 S40 r75 e76 _ _ _ (fr1 hO) (fun H77 hO => ?_)
          replace hO := un1 hO
          refine ⟨r75, rfl, ?_⟩
          refine ⟨fun w78 => ?_, fun w79 => ?_⟩
          · replace h := ifTd w78 h
            obtain ⟨r80, e81, h⟩ := bindS h
            refine c171 z0 L0 S40 r80 e81 _ _ _ (fr1 hO) (fun H82 hO => ?_)
            replace hO := un1 hO
            exact ⟨r80, hO, h⟩

          · replace h := ifFd w79 h
            exact ⟨S40, hO, h⟩


        · clear hO h
          intro H72 u73  hJ
          obtain ⟨S71, hO, h⟩ := hJ
          replace h : (k207_1 S71) = some r_ := h
          unfold k207_1 at h
          replace hO := open_F (pu0 hO)
          refine ⟨(hO.blk (.head _)).wr (Nat.le_of_ble_eq_true rfl), ?_⟩
          intro H74 eH74
          replace hO := os0 (l' := [Value.slice (some ⟨L0.toks, 0, none⟩) 41 41, I S71.nt, I S71.k, I S71.pos, Value.slice (some ⟨L0.arena, 0, none⟩) 24 24, I S71.nn, Value.slice (some ⟨L0.opnd, 0, none⟩) 41 41, I S71.nv, Value.slice (some ⟨L0.ops, 0, none⟩) 41 41, I S71.no, Value.bool true, Value.bool S71.done, I S71.err, I S71.bad, Value.slice (some ⟨L0.notes, 0, none⟩) 24 24, Value.slice (some ⟨L0.out, 0, none⟩) 288 288, I S71.w]) hO eH74 rfl
          replace hO := close_F L0 ({ S71 with have_ := true }) (hO)
          obtain rfl := Option.some.inj h
          exact hR _ hO



    · replace h := ifFd w46 h
      replace hO := close_F L0 S40 (hO)
      refine ⟨fun l Hc => ∃ S94 : FoS, Own Hc [oF z0 L0 S94] F ∧ (k207_1 S94) = some r_, ?_, ?_⟩
      · obtain ⟨r98, e99, h⟩ := bindS h
        refine c170 z0 L0 S40 r98 e99 _ _ _ (fr1 hO) (fun H100 hO => ?_)
        replace hO := un1 hO
        refine ⟨r98, rfl, ?_⟩
        refine ⟨fun w101 => ?_, fun w102 => ?_⟩
        · replace h := ifTd w101 h
          obtain ⟨r103, e104, h⟩ := bindS h
          refine c171 z0 L0 S40 r103 e104 _ _ _ (fr1 hO) (fun H105 hO => ?_)
          replace hO := un1 hO
          exact ⟨r103, hO, h⟩

        · replace h := ifFd w102 h
          exact ⟨S40, hO, h⟩


      · clear hO h
        intro H95 u96  hJ
        obtain ⟨S94, hO, h⟩ := hJ
        replace h : (k207_1 S94) = some r_ := h
        unfold k207_1 at h
        replace hO := open_F (pu0 hO)
        refine ⟨(hO.blk (.head _)).wr (Nat.le_of_ble_eq_true rfl), ?_⟩
        intro H97 eH97
        replace hO := os0 (l' := [Value.slice (some ⟨L0.toks, 0, none⟩) 41 41, I S94.nt, I S94.k, I S94.pos, Value.slice (some ⟨L0.arena, 0, none⟩) 24 24, I S94.nn, Value.slice (some ⟨L0.opnd, 0, none⟩) 41 41, I S94.nv, Value.slice (some ⟨L0.ops, 0, none⟩) 41 41, I S94.no, Value.bool true, Value.bool S94.done, I S94.err, I S94.bad, Value.slice (some ⟨L0.notes, 0, none⟩) 24 24, Value.slice (some ⟨L0.out, 0, none⟩) 288 288, I S94.w]) hO eH97 rfl
        replace hO := close_F L0 ({ S94 with have_ := true }) (hO)
        obtain rfl := Option.some.inj h
        exact hR _ hO





theorem c176 (n_ : Nat) (z0 : Nat) (L0 : FL) (S0 : FoS) (z1 : NodeT) (r_ : FoS) (h : s176 n_ S0 z1 = some r_) (F : List Ent) (H : Heap) (R : Value → Heap → Prop)
    (hO : Own H [oF z0 L0 S0] F)
    (hR : ∀ (H' : Heap) , Own H' [oF z0 L0 r_] F → R (.tuple #[]) H') :
    HCalls Tryz.prog 176 #[Value.pointer (some ⟨z0, 0, none⟩), Value.agg ⟨encNode z1⟩] H R := by
  refine vc176 z0 z1 H R ?_
  unfold s176 at h
  intro H21 eH21
  replace hO := own_new (l := encNode z1) hO eH21 rfl
  refine ⟨z1, (hO.blk (.head _)).rowT rfl, ?_⟩
  obtain ⟨r22, e23, h⟩ := bindS h
  obtain ⟨x25, g26, h⟩ := getS h
  refine ⟨?_, ?_, ?_⟩
  · replace hO := open_F (pu1 hO)
    refine ⟨(some ⟨L0.opnd, 0, none⟩), 41, 41, ((hO.blk (.head _)).rdv rfl), ?_⟩
    refine ⟨?_, ?_⟩
    · refine ⟨S0.nv, ((hO.blk (.head _)).rdv rfl), ?_⟩
      replace hO := close_F L0 S0 (hO)
      refine c206 z0 L0 S0 z1 r22 e23 _ _ _ (fr1 hO) (fun H32 hO => ?_)
      replace hO := un1 hO
      rw [frame206 e23] at hO
      refine ⟨r22.2, rfl, ?_⟩
      replace hO := open_F (pu0 hO)
      refine ⟨_, _, rfl, g26.1, g26.2.1, rfl, ?_⟩
      refine ⟨((hO.arr (.tail _ (.tail _ (.tail _ (.head _))))).wr1 lenI (i := Int.toNat S0.nv) (j := 0) (getLt g26.2.2) (Nat.le_of_ble_eq_true rfl) (zo0 _)), ?_⟩
      intro H33 eH33
      replace hO := os3 (l' := List.flatMap encI (List.set S0.opnd (Int.toNat S0.nv) r22.2)) hO eH33 (flat_set1 lenI (i := Int.toNat S0.nv) (j := 0) g26.2.2 (by decide) (zo0 _) rfl)
      refine ⟨S0.nv, ((hO.blk (.head _)).rdv rfl), ?_⟩
      obtain ⟨q34, h⟩ := ckS h
      refine ⟨_, .inl ⟨q34, rfl⟩, ?_⟩
      refine ⟨(hO.blk (.head _)).wr (Nat.le_of_ble_eq_true rfl), ?_⟩
      intro H35 eH35
      replace hO := os0 (l' := [Value.slice (some ⟨L0.toks, 0, none⟩) 41 41, I S0.nt, I S0.k, I S0.pos, Value.slice (some ⟨L0.arena, 0, none⟩) 24 24, I r22.1.nn, Value.slice (some ⟨L0.opnd, 0, none⟩) 41 41, I (S0.nv + (1 : Int)), Value.slice (some ⟨L0.ops, 0, none⟩) 41 41, I S0.no, Value.bool S0.have_, Value.bool S0.done, I r22.1.err, I r22.1.bad, Value.slice (some ⟨L0.notes, 0, none⟩) 24 24, Value.slice (some ⟨L0.out, 0, none⟩) 288 288, I S0.w]) hO eH35 rfl
      replace hO := close_F L0 ({ S0 with arena := r22.1.arena, nn := r22.1.nn, opnd := (List.set S0.opnd (Int.toNat S0.nv) r22.2), nv := S0.nv + (1 : Int), err := r22.1.err, bad := r22.1.bad }) (hO)
      obtain ⟨r36, e37, h⟩ := bindS h
      refine c207 n_ z0 L0 ({ S0 with arena := r22.1.arena, nn := r22.1.nn, opnd := (List.set S0.opnd (Int.toNat S0.nv) r22.2), nv := S0.nv + (1 : Int), err := r22.1.err, bad := r22.1.bad }) r36 e37 _ _ _ (fr1 hO) (fun H38 hO => ?_)
      replace hO := un1 hO
      obtain rfl := Option.some.inj h
      exact hR _ (dr1 (hO))

    · replace hO := close_F L0 S0 (hO)
      refine c206 z0 L0 S0 z1 r22 e23 _ _ _ (fr1 hO) (fun H39 hO => ?_)
      replace hO := un1 hO
      rw [frame206 e23] at hO
      refine ⟨r22.2, rfl, ?_⟩
      replace hO := open_F (pu0 hO)
      refine ⟨S0.nv, ((hO.blk (.head _)).rdv rfl), ?_⟩
      refine ⟨_, _, rfl, g26.1, g26.2.1, rfl, ?_⟩
      refine ⟨((hO.arr (.tail _ (.tail _ (.tail _ (.head _))))).wr1 lenI (i := Int.toNat S0.nv) (j := 0) (getLt g26.2.2) (Nat.le_of_ble_eq_true rfl) (zo0 _)), ?_⟩
      intro H40 eH40
      replace hO := os3 (l' := List.flatMap encI (List.set S0.opnd (Int.toNat S0.nv) r22.2)) hO eH40 (flat_set1 lenI (i := Int.toNat S0.nv) (j := 0) g26.2.2 (by decide) (zo0 _) rfl)
      refine ⟨S0.nv, ((hO.blk (.head _)).rdv rfl), ?_⟩
      obtain ⟨q41, h⟩ := ckS h
      refine ⟨_, .inl ⟨q41, rfl⟩, ?_⟩
      refine ⟨(hO.blk (.head _)).wr (Nat.le_of_ble_eq_true rfl), ?_⟩
      intro H42 eH42
      replace hO := os0 (l' := [Value.slice (some ⟨L0.toks, 0, none⟩) 41 41, I S0.nt, I S0.k, I S0.pos, Value.slice (some ⟨L0.arena, 0, none⟩) 24 24, I r22.1.nn, Value.slice (some ⟨L0.opnd, 0, none⟩) 41 41, I (S0.nv + (1 : Int)), Value.slice (some ⟨L0.ops, 0, none⟩) 41 41, I S0.no, Value.bool S0.have_, Value.bool S0.done, I r22.1.err, I r22.1.bad, Value.slice (some ⟨L0.notes, 0, none⟩) 24 24, Value.slice (some ⟨L0.out, 0, none⟩) 288 288, I S0.w]) hO eH42 rfl
      replace hO := close_F L0 ({ S0 with arena := r22.1.arena, nn := r22.1.nn, opnd := (List.set S0.opnd (Int.toNat S0.nv) r22.2), nv := S0.nv + (1 : Int), err := r22.1.err, bad := r22.1.bad }) (hO)
      obtain ⟨r43, e44, h⟩ := bindS h
      refine c207 n_ z0 L0 ({ S0 with arena := r22.1.arena, nn := r22.1.nn, opnd := (List.set S0.opnd (Int.toNat S0.nv) r22.2), nv := S0.nv + (1 : Int), err := r22.1.err, bad := r22.1.bad }) r43 e44 _ _ _ (fr1 hO) (fun H45 hO => ?_)
      replace hO := un1 hO
      obtain rfl := Option.some.inj h
      exact hR _ (dr1 (hO))


  · replace hO := open_F (pu1 hO)
    refine ⟨S0.nv, ((hO.blk (.head _)).rdv rfl), ?_⟩
    refine ⟨?_, ?_⟩
    · refine ⟨(some ⟨L0.opnd, 0, none⟩), 41, 41, ((hO.blk (.head _)).rdv rfl), ?_⟩
      replace hO := close_F L0 S0 (hO)
      refine c206 z0 L0 S0 z1 r22 e23 _ _ _ (fr1 hO) (fun H48 hO => ?_)
      replace hO := un1 hO
      rw [frame206 e23] at hO
      refine ⟨r22.2, rfl, ?_⟩
      replace hO := open_F (pu0 hO)
      refine ⟨_, _, rfl, g26.1, g26.2.1, rfl, ?_⟩
      refine ⟨((hO.arr (.tail _ (.tail _ (.tail _ (.head _))))).wr1 lenI (i := Int.toNat S0.nv) (j := 0) (getLt g26.2.2) (Nat.le_of_ble_eq_true rfl) (zo0 _)), ?_⟩
      intro H49 eH49
      replace hO := os3 (l' := List.flatMap encI (List.set S0.opnd (Int.toNat S0.nv) r22.2)) hO eH49 (flat_set1 lenI (i := Int.toNat S0.nv) (j := 0) g26.2.2 (by decide) (zo0 _) rfl)
      refine ⟨S0.nv, ((hO.blk (.head _)).rdv rfl), ?_⟩
      obtain ⟨q50, h⟩ := ckS h
      refine ⟨_, .inl ⟨q50, rfl⟩, ?_⟩
      refine ⟨(hO.blk (.head _)).wr (Nat.le_of_ble_eq_true rfl), ?_⟩
      intro H51 eH51
      replace hO := os0 (l' := [Value.slice (some ⟨L0.toks, 0, none⟩) 41 41, I S0.nt, I S0.k, I S0.pos, Value.slice (some ⟨L0.arena, 0, none⟩) 24 24, I r22.1.nn, Value.slice (some ⟨L0.opnd, 0, none⟩) 41 41, I (S0.nv + (1 : Int)), Value.slice (some ⟨L0.ops, 0, none⟩) 41 41, I S0.no, Value.bool S0.have_, Value.bool S0.done, I r22.1.err, I r22.1.bad, Value.slice (some ⟨L0.notes, 0, none⟩) 24 24, Value.slice (some ⟨L0.out, 0, none⟩) 288 288, I S0.w]) hO eH51 rfl
      replace hO := close_F L0 ({ S0 with arena := r22.1.arena, nn := r22.1.nn, opnd := (List.set S0.opnd (Int.toNat S0.nv) r22.2), nv := S0.nv + (1 : Int), err := r22.1.err, bad := r22.1.bad }) (hO)
      obtain ⟨r52, e53, h⟩ := bindS h
      refine c207 n_ z0 L0 ({ S0 with arena := r22.1.arena, nn := r22.1.nn, opnd := (List.set S0.opnd (Int.toNat S0.nv) r22.2), nv := S0.nv + (1 : Int), err := r22.1.err, bad := r22.1.bad }) r52 e53 _ _ _ (fr1 hO) (fun H54 hO => ?_)
      replace hO := un1 hO
      obtain rfl := Option.some.inj h
      exact hR _ (dr1 (hO))

    · replace hO := close_F L0 S0 (hO)
      refine c206 z0 L0 S0 z1 r22 e23 _ _ _ (fr1 hO) (fun H55 hO => ?_)
      replace hO := un1 hO
      rw [frame206 e23] at hO
      refine ⟨r22.2, rfl, ?_⟩
      replace hO := open_F (pu0 hO)
      refine ⟨(some ⟨L0.opnd, 0, none⟩), 41, 41, ((hO.blk (.head _)).rdv rfl), ?_⟩
      refine ⟨_, _, rfl, g26.1, g26.2.1, rfl, ?_⟩
      refine ⟨((hO.arr (.tail _ (.tail _ (.tail _ (.head _))))).wr1 lenI (i := Int.toNat S0.nv) (j := 0) (getLt g26.2.2) (Nat.le_of_ble_eq_true rfl) (zo0 _)), ?_⟩
      intro H56 eH56
      replace hO := os3 (l' := List.flatMap encI (List.set S0.opnd (Int.toNat S0.nv) r22.2)) hO eH56 (flat_set1 lenI (i := Int.toNat S0.nv) (j := 0) g26.2.2 (by decide) (zo0 _) rfl)
      refine ⟨S0.nv, ((hO.blk (.head _)).rdv rfl), ?_⟩
      obtain ⟨q57, h⟩ := ckS h
      refine ⟨_, .inl ⟨q57, rfl⟩, ?_⟩
      refine ⟨(hO.blk (.head _)).wr (Nat.le_of_ble_eq_true rfl), ?_⟩
      intro H58 eH58
      replace hO := os0 (l' := [Value.slice (some ⟨L0.toks, 0, none⟩) 41 41, I S0.nt, I S0.k, I S0.pos, Value.slice (some ⟨L0.arena, 0, none⟩) 24 24, I r22.1.nn, Value.slice (some ⟨L0.opnd, 0, none⟩) 41 41, I (S0.nv + (1 : Int)), Value.slice (some ⟨L0.ops, 0, none⟩) 41 41, I S0.no, Value.bool S0.have_, Value.bool S0.done, I r22.1.err, I r22.1.bad, Value.slice (some ⟨L0.notes, 0, none⟩) 24 24, Value.slice (some ⟨L0.out, 0, none⟩) 288 288, I S0.w]) hO eH58 rfl
      replace hO := close_F L0 ({ S0 with arena := r22.1.arena, nn := r22.1.nn, opnd := (List.set S0.opnd (Int.toNat S0.nv) r22.2), nv := S0.nv + (1 : Int), err := r22.1.err, bad := r22.1.bad }) (hO)
      obtain ⟨r59, e60, h⟩ := bindS h
      refine c207 n_ z0 L0 ({ S0 with arena := r22.1.arena, nn := r22.1.nn, opnd := (List.set S0.opnd (Int.toNat S0.nv) r22.2), nv := S0.nv + (1 : Int), err := r22.1.err, bad := r22.1.bad }) r59 e60 _ _ _ (fr1 hO) (fun H61 hO => ?_)
      replace hO := un1 hO
      obtain rfl := Option.some.inj h
      exact hR _ (dr1 (hO))


  · refine c206 z0 L0 S0 z1 r22 e23 _ _ _ (fr1 (pu1 hO)) (fun H62 hO => ?_)
    replace hO := un1 hO
    rw [frame206 e23] at hO
    refine ⟨r22.2, rfl, ?_⟩
    replace hO := open_F (pu0 hO)
    refine ⟨(some ⟨L0.opnd, 0, none⟩), 41, 41, ((hO.blk (.head _)).rdv rfl), ?_⟩
    refine ⟨S0.nv, ((hO.blk (.head _)).rdv rfl), ?_⟩
    refine ⟨_, _, rfl, g26.1, g26.2.1, rfl, ?_⟩
    refine ⟨((hO.arr (.tail _ (.tail _ (.tail _ (.head _))))).wr1 lenI (i := Int.toNat S0.nv) (j := 0) (getLt g26.2.2) (Nat.le_of_ble_eq_true rfl) (zo0 _)), ?_⟩
    intro H63 eH63
    replace hO := os3 (l' := List.flatMap encI (List.set S0.opnd (Int.toNat S0.nv) r22.2)) hO eH63 (flat_set1 lenI (i := Int.toNat S0.nv) (j := 0) g26.2.2 (by decide) (zo0 _) rfl)
    refine ⟨S0.nv, ((hO.blk (.head _)).rdv rfl), ?_⟩
    obtain ⟨q64, h⟩ := ckS h
    refine ⟨_, .inl ⟨q64, rfl⟩, ?_⟩
    refine ⟨(hO.blk (.head _)).wr (Nat.le_of_ble_eq_true rfl), ?_⟩
    intro H65 eH65
    replace hO := os0 (l' := [Value.slice (some ⟨L0.toks, 0, none⟩) 41 41, I S0.nt, I S0.k, I S0.pos, Value.slice (some ⟨L0.arena, 0, none⟩) 24 24, I r22.1.nn, Value.slice (some ⟨L0.opnd, 0, none⟩) 41 41, I (S0.nv + (1 : Int)), Value.slice (some ⟨L0.ops, 0, none⟩) 41 41, I S0.no, Value.bool S0.have_, Value.bool S0.done, I r22.1.err, I r22.1.bad, Value.slice (some ⟨L0.notes, 0, none⟩) 24 24, Value.slice (some ⟨L0.out, 0, none⟩) 288 288, I S0.w]) hO eH65 rfl
    replace hO := close_F L0 ({ S0 with arena := r22.1.arena, nn := r22.1.nn, opnd := (List.set S0.opnd (Int.toNat S0.nv) r22.2), nv := S0.nv + (1 : Int), err := r22.1.err, bad := r22.1.bad }) (hO)
    obtain ⟨r66, e67, h⟩ := bindS h
    refine c207 n_ z0 L0 ({ S0 with arena := r22.1.arena, nn := r22.1.nn, opnd := (List.set S0.opnd (Int.toNat S0.nv) r22.2), nv := S0.nv + (1 : Int), err := r22.1.err, bad := r22.1.bad }) r66 e67 _ _ _ (fr1 hO) (fun H68 hO => ?_)
    replace hO := un1 hO
    obtain rfl := Option.some.inj h
    exact hR _ (dr1 (hO))



theorem c208 (z0 : Int) (z1 : Int) (r_ : Bool) (h : s208 z0 z1 = r_) (F : List Ent) (H : Heap) (R : Value → Heap → Prop)
    (hO : Own H [] F)
    (hR : ∀ (H' : Heap) , Own H' [] F → R (.bool r_) H') :
    HCalls Tryz.prog 208 #[I z0, I z1] H R := by
  refine vc208 z0 z1 H R ?_
  unfold s208 at h
  refine ⟨fun w21 => ?_, fun w22 => ?_⟩
  · replace h := ifTd w21 h
    subst h
    exact hR _ hO

  · replace h := ifFd w22 h
    refine ⟨fun w23 => ?_, fun w24 => ?_⟩
    · replace h := ifTd w23 h
      subst h
      exact hR _ hO

    · replace h := ifFd w24 h
      refine ⟨fun w25 => ?_, fun w26 => ?_⟩
      · replace h := ifTd w25 h
        subst h
        exact hR _ hO

      · replace h := ifFd w26 h
        refine ⟨fun w27 => ?_, fun w28 => ?_⟩
        · replace h := ifTd w27 h
          subst h
          exact hR _ hO

        · replace h := ifFd w28 h
          refine ⟨fun w29 => ?_, fun w30 => ?_⟩
          · replace h := ifTd w29 h
            subst h
            exact hR _ hO

          · replace h := ifFd w30 h
            refine ⟨fun w31 => ?_, fun w32 => ?_⟩
            · replace h := ifTd w31 h
              subst h
              exact hR _ hO

            · replace h := ifFd w32 h
              refine ⟨fun w33 => ?_, fun w34 => ?_⟩
              · replace h := ifTd w33 h
                subst h
                exact hR _ hO

              · replace h := ifFd w34 h
                refine ⟨fun w35 => ?_, fun w36 => ?_⟩
                · replace h := ifTd w35 h
                  subst h
                  exact hR _ hO

                · replace h := ifFd w36 h
                  refine ⟨fun w37 => ?_, fun w38 => ?_⟩
                  · replace h := ifTd w37 h
                    subst h
                    exact hR _ hO

                  · replace h := ifFd w38 h
                    refine ⟨fun w39 => ?_, fun w40 => ?_⟩
                    · replace h := ifTd w39 h
                      subst h
                      exact hR _ hO

                    · replace h := ifFd w40 h
                      subst h
                      exact hR _ hO












theorem c172 (n_ : Nat) (z0 : Nat) (L0 : FL) (S0 : FoS) (z1 : TokT) (r_ : FoS) (h : s172 n_ S0 z1 = some r_) (F : List Ent) (H : Heap) (R : Value → Heap → Prop)
    (hO : Own H [oF z0 L0 S0] F)
    (hR : ∀ (H' : Heap) , Own H' [oF z0 L0 r_] F → R (.tuple #[]) H') :
    HCalls Tryz.prog 172 #[Value.pointer (some ⟨z0, 0, none⟩), Value.agg ⟨encTok z1⟩] H R := by
  refine vc172 z0 z1 H R ?_
  unfold s172 at h
  intro H21 eH21
  replace hO := own_new (l := encTok z1) hO eH21 rfl
  replace hO := open_F (pu1 hO)
  refine ⟨S0.no, ((hO.blk (.head _)).rdv rfl), ?_⟩
  refine ⟨fun w22 => ?_, fun w23 => ?_⟩
  · replace h := ifTd w22 h
    replace hO := close_F L0 S0 (hO)
    refine ⟨fun l Hc => ∃ S30 : FoS, Own Hc [oF z0 L0 S30] F ∧ (k172_1 S30) = some r_, ?_, ?_⟩
    · refine ⟨z1.kind, ((hO.blk (.tail _ (.head _))).rdv rfl), ?_⟩
      refine ⟨fun w34 => ?_, fun w35 => ?_⟩
      · replace w34 := bnotT w34
        replace h := ifFd w34 h
        refine ⟨z1.at_, ((hO.blk (.tail _ (.head _))).rdv rfl), ?_⟩
        refine c173 z0 L0 S0 (3 : Int) z1.at_ _ rfl _ _ _ (fr1 hO) (fun H36 hO => ?_)
        replace hO := un1 hO
        replace hO := dr1 (hO)
        exact ⟨(s173 S0 (3 : Int) z1.at_), hO, h⟩

      · replace w35 := bnotF w35
        replace h := ifTd w35 h
        replace hO := dr1 (hO)
        exact ⟨S0, hO, h⟩


    · clear hO h
      intro H31 u32  hJ
      obtain ⟨S30, hO, h⟩ := hJ
      replace h : (k172_1 S30) = some r_ := h
      unfold k172_1 at h
      replace hO := open_F (pu0 hO)
      refine ⟨(hO.blk (.head _)).wr (Nat.le_of_ble_eq_true rfl), ?_⟩
      intro H33 eH33
      replace hO := os0 (l' := [Value.slice (some ⟨L0.toks, 0, none⟩) 41 41, I S30.nt, I S30.k, I S30.pos, Value.slice (some ⟨L0.arena, 0, none⟩) 24 24, I S30.nn, Value.slice (some ⟨L0.opnd, 0, none⟩) 41 41, I S30.nv, Value.slice (some ⟨L0.ops, 0, none⟩) 41 41, I S30.no, Value.bool S30.have_, Value.bool true, I S30.err, I S30.bad, Value.slice (some ⟨L0.notes, 0, none⟩) 24 24, Value.slice (some ⟨L0.out, 0, none⟩) 288 288, I S30.w]) hO eH33 rfl
      replace hO := close_F L0 ({ S30 with done := true }) (hO)
      obtain rfl := Option.some.inj h
      exact hR _ hO


  · replace h := ifFd w23 h
    refine ⟨(some ⟨L0.ops, 0, none⟩), 41, 41, ((hO.blk (.head _)).rdv rfl), ?_⟩
    refine ⟨S0.no, ((hO.blk (.head _)).rdv rfl), ?_⟩
    obtain ⟨q37, h⟩ := ckS h
    refine ⟨q37, ?_⟩
    obtain ⟨x38, g39, h⟩ := getS h
    refine ⟨_, _, rfl, g39.1, g39.2.1, rfl, ?_⟩
    refine ⟨x38, (hO.arr (.tail _ (.tail _ (.tail _ (.tail _ (.head _)))))).row (i := Int.toNat (S0.no - (1 : Int))) lenMark g39.2.2 (Nat.zero_add _), ?_⟩
    intro H40 eH40
    replace hO := own_new (l := encMark (⟨(0 : Int), (0 : Int), (0 : Int), (0 : Int), (0 : Int)⟩ : MarkT)) hO eH40 rfl
    refine ⟨(hO.blk (.head _)).wr (Nat.le_of_ble_eq_true rfl), ?_⟩
    intro H41 eH41
    replace hO := oz0 (l' := encMark x38) hO eH41 rfl
    replace hO := close_F L0 S0 (pu7 (pu7 (pu7 (pu7 (pu7 (pu7 (pu7 hO)))))))
    refine ⟨fun l Hc => ∃ S125 : FoS, ∃ t126 : MarkT, Own Hc [oF z0 L0 S125, cellE 202 H21.size (encMark t126), cellE 194 H.size (encTok z1)] F ∧ (k172_4 n_ z1 S125 t126) = some r_, ?_, ?_⟩
    · refine ⟨x38.kind, ((hO.blk (.tail _ (.head _))).rdv rfl), ?_⟩
      refine ⟨fun w149 => ?_, fun w150 => ?_⟩
      · replace h := ifTd w149 h
        replace hO := open_F (pu0 hO)
        refine ⟨S0.nv, ((hO.blk (.head _)).rdv rfl), ?_⟩
        obtain ⟨q151, h⟩ := ckS h
        refine ⟨q151, ?_⟩
        refine ⟨(hO.blk (.head _)).wr (Nat.le_of_ble_eq_true rfl), ?_⟩
        intro H152 eH152
        replace hO := os0 (l' := [Value.slice (some ⟨L0.toks, 0, none⟩) 41 41, I S0.nt, I S0.k, I S0.pos, Value.slice (some ⟨L0.arena, 0, none⟩) 24 24, I S0.nn, Value.slice (some ⟨L0.opnd, 0, none⟩) 41 41, I (S0.nv - (1 : Int)), Value.slice (some ⟨L0.ops, 0, none⟩) 41 41, I S0.no, Value.bool S0.have_, Value.bool S0.done, I S0.err, I S0.bad, Value.slice (some ⟨L0.notes, 0, none⟩) 24 24, Value.slice (some ⟨L0.out, 0, none⟩) 288 288, I S0.w]) hO eH152 rfl
        refine ⟨(some ⟨L0.opnd, 0, none⟩), 41, 41, ((hO.blk (.head _)).rdv rfl), ?_⟩
        refine ⟨(S0.nv - (1 : Int)), ((hO.blk (.head _)).rdv rfl), ?_⟩
        obtain ⟨x153, g154, h⟩ := getS h
        refine ⟨_, _, rfl, g154.1, g154.2.1, rfl, ?_⟩
        refine ⟨x153, ((hO.arr (.tail _ (.tail _ (.tail _ (.head _))))).rd (i := Int.toNat (S0.nv - (1 : Int))) (j := 0) lenI g154.2.2 (by decide) (zo0 _) rfl), ?_⟩
        refine ⟨x38.link, ((hO.blk (.tail _ (.tail _ (.tail _ (.tail _ (.tail _ (.tail _ (.tail _ (.head _))))))))).rdv rfl), ?_⟩
        replace hO := close_F L0 ({ S0 with nv := S0.nv - (1 : Int) }) (hO)
        obtain ⟨r155, e156, h⟩ := bindS h
        refine c206 z0 L0 ({ S0 with nv := S0.nv - (1 : Int) }) (⟨(9 : Int), (0 : Int), x153, x38.link, (0 : Int), (⟨(0 : Int), (0 : Int), false, false⟩ : RefT), (⟨(0 : Int), (0 : Int), false, false⟩ : RefT)⟩ : NodeT) r155 e156 _ _ _ (fr1 hO) (fun H157 hO => ?_)
        replace hO := un1 hO
        rw [frame206 e156] at hO
        refine ⟨r155.2, rfl, ?_⟩
        refine ⟨(hO.blk (.tail _ (.head _))).wr (Nat.le_of_ble_eq_true rfl), ?_⟩
        intro H158 eH158
        replace hO := os1 (l' := encMark ({ x38 with link := r155.2 })) hO eH158 rfl
        refine ⟨x38.n, ((hO.blk (.tail _ (.head _))).rdv rfl), ?_⟩
        obtain ⟨q159, h⟩ := ckS h
        refine ⟨_, .inl ⟨q159, rfl⟩, ?_⟩
        refine ⟨(hO.blk (.tail _ (.head _))).wr (Nat.le_of_ble_eq_true rfl), ?_⟩
        intro H160 eH160
        replace hO := os1 (l' := encMark ({ x38 with n := x38.n + (1 : Int), link := r155.2 })) hO eH160 rfl
        replace hO := open_F (pu0 hO)
        refine ⟨(some ⟨L0.ops, 0, none⟩), 41, 41, ((hO.blk (.head _)).rdv rfl), ?_⟩
        refine ⟨S0.no, ((hO.blk (.head _)).rdv rfl), ?_⟩
        refine ⟨q37, ?_⟩
        refine ⟨{ x38 with n := x38.n + (1 : Int), link := r155.2 }, (hO.blk (.tail _ (.tail _ (.tail _ (.tail _ (.tail _ (.tail _ (.tail _ (.head _))))))))).rowT rfl, ?_⟩
        refine ⟨_, _, rfl, g39.1, g39.2.1, rfl, ?_⟩
        refine ⟨((hO.arr (.tail _ (.tail _ (.tail _ (.tail _ (.head _)))))).wr1 lenMark (i := Int.toNat (S0.no - (1 : Int))) (j := 0) (getLt g39.2.2) (Nat.le_of_ble_eq_true rfl) (zo0 _)), ?_⟩
        intro H161 eH161
        replace hO := oz4 (l' := List.flatMap encMark (List.set S0.ops (Int.toNat (S0.no - (1 : Int))) ({ x38 with n := x38.n + (1 : Int), link := r155.2 }))) hO eH161 (flat_put1 lenMark (i := Int.toNat (S0.no - (1 : Int))) (x := ({ x38 with n := x38.n + (1 : Int), link := r155.2 })) (getLt g39.2.2) (Nat.zero_add _))
        refine ⟨z1.kind, ((hO.blk (.tail _ (.tail _ (.tail _ (.tail _ (.tail _ (.tail _ (.tail _ (.tail _ (.head _)))))))))).rdv rfl), ?_⟩
        refine ⟨fun w162 => ?_, fun w163 => ?_⟩
        · replace h := ifTd w162 h
          replace hO := close_F L0 ({ S0 with arena := r155.1.arena, nn := r155.1.nn, nv := S0.nv - (1 : Int), ops := (List.set S0.ops (Int.toNat (S0.no - (1 : Int))) ({ x38 with n := x38.n + (1 : Int), link := r155.2 })), err := r155.1.err, bad := r155.1.bad }) (hO)
          obtain ⟨r164, e165, h⟩ := bindS h
          refine c174 z0 L0 ({ S0 with arena := r155.1.arena, nn := r155.1.nn, nv := S0.nv - (1 : Int), ops := (List.set S0.ops (Int.toNat (S0.no - (1 : Int))) ({ x38 with n := x38.n + (1 : Int), link := r155.2 })), err := r155.1.err, bad := r155.1.bad }) r164 e165 _ _ _ (fr1 hO) (fun H166 hO => ?_)
          replace hO := un1 hO
          replace hO := open_F (pu0 hO)
          refine ⟨(hO.blk (.head _)).wr (Nat.le_of_ble_eq_true rfl), ?_⟩
          intro H167 eH167
          replace hO := os0 (l' := [Value.slice (some ⟨L0.toks, 0, none⟩) 41 41, I r164.nt, I r164.k, I r164.pos, Value.slice (some ⟨L0.arena, 0, none⟩) 24 24, I r164.nn, Value.slice (some ⟨L0.opnd, 0, none⟩) 41 41, I r164.nv, Value.slice (some ⟨L0.ops, 0, none⟩) 41 41, I r164.no, Value.bool false, Value.bool r164.done, I r164.err, I r164.bad, Value.slice (some ⟨L0.notes, 0, none⟩) 24 24, Value.slice (some ⟨L0.out, 0, none⟩) 288 288, I r164.w]) hO eH167 rfl
          replace hO := close_F L0 ({ r164 with have_ := false }) (hO)
          obtain rfl := Option.some.inj h
          exact hR _ (dr1 (dr1 (hO)))

        · replace h := ifFd w163 h
          replace hO := close_F L0 ({ S0 with arena := r155.1.arena, nn := r155.1.nn, nv := S0.nv - (1 : Int), ops := (List.set S0.ops (Int.toNat (S0.no - (1 : Int))) ({ x38 with n := x38.n + (1 : Int), link := r155.2 })), err := r155.1.err, bad := r155.1.bad }) (hO)
          exact ⟨({ S0 with arena := r155.1.arena, nn := r155.1.nn, nv := S0.nv - (1 : Int), ops := (List.set S0.ops (Int.toNat (S0.no - (1 : Int))) ({ x38 with n := x38.n + (1 : Int), link := r155.2 })), err := r155.1.err, bad := r155.1.bad }), ({ x38 with n := x38.n + (1 : Int), link := r155.2 }), hO, h⟩


      · replace h := ifFd w150 h
        exact ⟨S0, x38, hO, h⟩


    · clear hO h
      intro H127 u128  hJ
      obtain ⟨S125, t126, hO, h⟩ := hJ
      replace h : (k172_4 n_ z1 S125 t126) = some r_ := h
      unfold k172_4 at h
      refine ⟨z1.kind, ((hO.blk (.tail _ (.tail _ (.head _)))).rdv rfl), ?_⟩
      refine ⟨fun w129 => ?_, fun w130 => ?_⟩
      · replace w129 := bnotT w129
        replace h := ifFd w129 h
        refine ⟨z1.at_, ((hO.blk (.tail _ (.tail _ (.head _)))).rdv rfl), ?_⟩
        refine c173 z0 L0 S125 (3 : Int) z1.at_ _ rfl _ _ _ (fr1 hO) (fun H131 hO => ?_)
        replace hO := un1 hO
        obtain rfl := Option.some.inj h
        exact hR _ (dr1 (dr1 (hO)))

      · replace w130 := bnotF w130
        replace h := ifTd w130 h
        obtain ⟨r132, e133, h⟩ := bindS h
        refine c174 z0 L0 S125 r132 e133 _ _ _ (fr1 hO) (fun H134 hO => ?_)
        replace hO := un1 hO
        replace hO := open_F (pu0 hO)
        refine ⟨r132.no, ((hO.blk (.head _)).rdv rfl), ?_⟩
        obtain ⟨q135, h⟩ := ckS h
        refine ⟨q135, ?_⟩
        refine ⟨(hO.blk (.head _)).wr (Nat.le_of_ble_eq_true rfl), ?_⟩
        intro H136 eH136
        replace hO := os0 (l' := [Value.slice (some ⟨L0.toks, 0, none⟩) 41 41, I r132.nt, I r132.k, I r132.pos, Value.slice (some ⟨L0.arena, 0, none⟩) 24 24, I r132.nn, Value.slice (some ⟨L0.opnd, 0, none⟩) 41 41, I r132.nv, Value.slice (some ⟨L0.ops, 0, none⟩) 41 41, I (r132.no - (1 : Int)), Value.bool r132.have_, Value.bool r132.done, I r132.err, I r132.bad, Value.slice (some ⟨L0.notes, 0, none⟩) 24 24, Value.slice (some ⟨L0.out, 0, none⟩) 288 288, I r132.w]) hO eH136 rfl
        refine ⟨t126.kind, ((hO.blk (.tail _ (.tail _ (.tail _ (.tail _ (.tail _ (.tail _ (.tail _ (.head _))))))))).rdv rfl), ?_⟩
        refine ⟨fun w137 => ?_, fun w138 => ?_⟩
        · replace h := ifTd w137 h
          replace hO := close_F L0 ({ r132 with no := r132.no - (1 : Int) }) (hO)
          obtain ⟨r139, e140, h⟩ := bindS h
          refine c207 n_ z0 L0 ({ r132 with no := r132.no - (1 : Int) }) r139 e140 _ _ _ (fr1 hO) (fun H141 hO => ?_)
          replace hO := un1 hO
          obtain rfl := Option.some.inj h
          exact hR _ (dr1 (dr1 (hO)))

        · replace h := ifFd w138 h
          refine ⟨t126.op, ((hO.blk (.tail _ (.tail _ (.tail _ (.tail _ (.tail _ (.tail _ (.tail _ (.head _))))))))).rdv rfl), ?_⟩
          refine ⟨t126.n, ((hO.blk (.tail _ (.tail _ (.tail _ (.tail _ (.tail _ (.tail _ (.tail _ (.head _))))))))).rdv rfl), ?_⟩
          refine c208 t126.op t126.n _ rfl _ _ _ (fr0 hO) (fun H142 hO => ?_)
          replace hO := un0 hO
          refine ⟨(s208 t126.op t126.n), rfl, ?_⟩
          refine ⟨fun w143 => ?_, fun w144 => ?_⟩
          · replace w143 := bnotT w143
            replace h := ifFb w143 h
            refine ⟨t126.at_, ((hO.blk (.tail _ (.tail _ (.tail _ (.tail _ (.tail _ (.tail _ (.tail _ (.head _))))))))).rdv rfl), ?_⟩
            replace hO := close_F L0 ({ r132 with no := r132.no - (1 : Int) }) (hO)
            refine c173 z0 L0 ({ r132 with no := r132.no - (1 : Int) }) (6 : Int) t126.at_ _ rfl _ _ _ (fr1 hO) (fun H145 hO => ?_)
            replace hO := un1 hO
            obtain rfl := Option.some.inj h
            exact hR _ (dr1 (dr1 (hO)))

          · replace w144 := bnotF w144
            replace h := ifTb w144 h
            refine ⟨t126.op, ((hO.blk (.tail _ (.tail _ (.tail _ (.tail _ (.tail _ (.tail _ (.tail _ (.head _))))))))).rdv rfl), ?_⟩
            refine ⟨t126.link, ((hO.blk (.tail _ (.tail _ (.tail _ (.tail _ (.tail _ (.tail _ (.tail _ (.head _))))))))).rdv rfl), ?_⟩
            refine ⟨t126.n, ((hO.blk (.tail _ (.tail _ (.tail _ (.tail _ (.tail _ (.tail _ (.tail _ (.head _))))))))).rdv rfl), ?_⟩
            replace hO := close_F L0 ({ r132 with no := r132.no - (1 : Int) }) (hO)
            obtain ⟨r146, e147, h⟩ := bindS h
            refine c176 n_ z0 L0 ({ r132 with no := r132.no - (1 : Int) }) (⟨(8 : Int), t126.op, t126.link, (-1 : Int), t126.n, (⟨(0 : Int), (0 : Int), false, false⟩ : RefT), (⟨(0 : Int), (0 : Int), false, false⟩ : RefT)⟩ : NodeT) r146 e147 _ _ _ (fr1 hO) (fun H148 hO => ?_)
            replace hO := un1 hO
            obtain rfl := Option.some.inj h
            exact hR _ (dr1 (dr1 (hO)))







theorem c175 (z0 : Nat) (L0 : FL) (S0 : FoS) (z1 : MarkT) (r_ : FoS) (h : s175 S0 z1 = some r_) (F : List Ent) (H : Heap) (R : Value → Heap → Prop)
    (hO : Own H [oF z0 L0 S0] F)
    (hR : ∀ (H' : Heap) , Own H' [oF z0 L0 r_] F → R (.tuple #[]) H') :
    HCalls Tryz.prog 175 #[Value.pointer (some ⟨z0, 0, none⟩), Value.agg ⟨encMark z1⟩] H R := by
  refine vc175 z0 z1 H R ?_
  unfold s175 at h
  intro H21 eH21
  replace hO := own_new (l := encMark z1) hO eH21 rfl
  replace hO := open_F (pu1 hO)
  refine ⟨(some ⟨L0.ops, 0, none⟩), 41, 41, ((hO.blk (.head _)).rdv rfl), ?_⟩
  refine ⟨S0.no, ((hO.blk (.head _)).rdv rfl), ?_⟩
  refine ⟨z1, (hO.blk (.tail _ (.tail _ (.tail _ (.tail _ (.tail _ (.tail _ (.tail _ (.head _))))))))).rowT rfl, ?_⟩
  obtain ⟨x22, g23, h⟩ := getS h
  refine ⟨_, _, rfl, g23.1, g23.2.1, rfl, ?_⟩
  refine ⟨((hO.arr (.tail _ (.tail _ (.tail _ (.tail _ (.head _)))))).wr1 lenMark (i := Int.toNat S0.no) (j := 0) (getLt g23.2.2) (Nat.le_of_ble_eq_true rfl) (zo0 _)), ?_⟩
  intro H24 eH24
  replace hO := oz4 (l' := List.flatMap encMark (List.set S0.ops (Int.toNat S0.no) z1)) hO eH24 (flat_put1 lenMark (i := Int.toNat S0.no) (x := z1) (getLt g23.2.2) (Nat.zero_add _))
  refine ⟨S0.no, ((hO.blk (.head _)).rdv rfl), ?_⟩
  obtain ⟨q25, h⟩ := ckS h
  refine ⟨_, .inl ⟨q25, rfl⟩, ?_⟩
  refine ⟨(hO.blk (.head _)).wr (Nat.le_of_ble_eq_true rfl), ?_⟩
  intro H26 eH26
  replace hO := os0 (l' := [Value.slice (some ⟨L0.toks, 0, none⟩) 41 41, I S0.nt, I S0.k, I S0.pos, Value.slice (some ⟨L0.arena, 0, none⟩) 24 24, I S0.nn, Value.slice (some ⟨L0.opnd, 0, none⟩) 41 41, I S0.nv, Value.slice (some ⟨L0.ops, 0, none⟩) 41 41, I (S0.no + (1 : Int)), Value.bool S0.have_, Value.bool S0.done, I S0.err, I S0.bad, Value.slice (some ⟨L0.notes, 0, none⟩) 24 24, Value.slice (some ⟨L0.out, 0, none⟩) 288 288, I S0.w]) hO eH26 rfl
  replace hO := close_F L0 ({ S0 with ops := (List.set S0.ops (Int.toNat S0.no) z1), no := S0.no + (1 : Int) }) (hO)
  obtain rfl := Option.some.inj h
  exact hR _ (dr1 (hO))


theorem c139 (n_ : Nat) (z0 : Nat) (L0 : FL) (S0 : FoS) (r_ : FoS) (h : s139 n_ S0 = some r_) (F : List Ent) (H : Heap) (R : Value → Heap → Prop)
    (hO : Own H [oF z0 L0 S0] F)
    (hR : ∀ (H' : Heap) , Own H' [oF z0 L0 r_] F → R (.tuple #[]) H') :
    HCalls Tryz.prog 139 #[Value.pointer (some ⟨z0, 0, none⟩)] H R := by
  refine vc139 z0 H R ?_
  unfold s139 at h
  obtain ⟨r21, e22, h⟩ := bindS h
  refine c168 z0 L0 S0 r21 e22 _ _ _ (fr1 hO) (fun H23 hO => ?_)
  replace hO := un1 hO
  refine ⟨r21.2, rfl, ?_⟩
  intro H24 eH24
  replace hO := own_new (l := encTok (⟨(0 : Int), (0 : Int), (0 : Int), (0 : Int), (0 : Int), (⟨(0 : Int), (0 : Int), false, false⟩ : RefT)⟩ : TokT)) hO eH24 rfl
  refine ⟨(hO.blk (.head _)).wr (Nat.le_of_ble_eq_true rfl), ?_⟩
  intro H25 eH25
  replace hO := oz0 (l' := encTok r21.2) hO eH25 rfl
  refine ⟨fun l Hc => Own Hc [cellE 194 H23.size (encTok r21.2), oF z0 L0 r21.1] F ∧ (k139_6 n_ r21 (asI (nth l 0))) = some r_, ?_, ?_⟩
  · refine ⟨r21.2.kind, ((hO.blk (.head _)).rdv rfl), ?_⟩
    refine ⟨fun w224 => ?_, fun w225 => ?_⟩
    · replace h := ifTd w224 h
      refine ⟨r21.2.n, ((hO.blk (.head _)).rdv rfl), ?_⟩
      refine c169 r21.2.n _ rfl _ _ _ (fr0 hO) (fun H226 hO => ?_)
      replace hO := un0 hO
      refine ⟨(s169 r21.2.n), rfl, ?_⟩
      exact ⟨hO, h⟩

    · replace h := ifFd w225 h
      exact ⟨hO, h⟩


  · clear hO h
    intro H26 u27 x28 hJ
    obtain ⟨hO, h⟩ := hJ
    replace h : (k139_6 n_ r21 x28) = some r_ := h
    unfold k139_6 at h
    refine ⟨fun l Hc => ∃ S126 : FoS, Own Hc [cellE 194 H23.size (encTok r21.2), oF z0 L0 S126] F ∧ (k139_5 n_ r21 x28 S126) = some r_, ?_, ?_⟩
    · refine ⟨fun w214 => ?_, fun w215 => ?_⟩
      · replace h := ifTd w214 h
        obtain ⟨r216, e217, h⟩ := bindS h
        refine c170 z0 L0 r21.1 r216 e217 _ _ _ (fr1 (pu1 hO)) (fun H218 hO => ?_)
        replace hO := un1 hO
        refine ⟨r216, rfl, ?_⟩
        refine ⟨fun w219 => ?_, fun w220 => ?_⟩
        · replace h := ifTd w219 h
          obtain ⟨r221, e222, h⟩ := bindS h
          refine c171 z0 L0 r21.1 r221 e222 _ _ _ (fr1 hO) (fun H223 hO => ?_)
          replace hO := un1 hO
          replace hO := pu1 (pu0 hO)
          exact ⟨r221, hO, h⟩

        · replace h := ifFd w220 h
          replace hO := pu1 (pu0 hO)
          exact ⟨r21.1, hO, h⟩


      · replace h := ifFd w215 h
        exact ⟨r21.1, hO, h⟩


    · clear hO h
      intro H127 u128  hJ
      obtain ⟨S126, hO, h⟩ := hJ
      replace h : (k139_5 n_ r21 x28 S126) = some r_ := h
      unfold k139_5 at h
      refine ⟨fun l Hc => ∃ S171 : FoS, Own Hc [cellE 194 H23.size (encTok r21.2), oF z0 L0 S171] F ∧ (k139_4 n_ r21 (asI (nth l 0)) S171) = some r_, ?_, ?_⟩
      · refine ⟨fun w204 => ?_, fun w205 => ?_⟩
        · replace h := ifTd w204 h
          obtain ⟨r206, e207, h⟩ := bindS h
          refine c170 z0 L0 S126 r206 e207 _ _ _ (fr1 (pu1 hO)) (fun H208 hO => ?_)
          replace hO := un1 hO
          refine ⟨r206, rfl, ?_⟩
          refine ⟨fun w209 => ?_, fun w210 => ?_⟩
          · replace h := ifTd w209 h
            obtain ⟨r211, e212, h⟩ := bindS h
            refine c171 z0 L0 S126 r211 e212 _ _ _ (fr1 hO) (fun H213 hO => ?_)
            replace hO := un1 hO
            replace hO := pu1 (pu0 hO)
            exact ⟨r211, hO, h⟩

          · replace h := ifFd w210 h
            replace hO := pu1 (pu0 hO)
            exact ⟨S126, hO, h⟩


        · replace h := ifFd w205 h
          exact ⟨S126, hO, h⟩


      · clear hO h
        intro H172 u173 x174 hJ
        obtain ⟨S171, hO, h⟩ := hJ
        replace h : (k139_4 n_ r21 x174 S171) = some r_ := h
        unfold k139_4 at h
        refine ⟨fun w175 => ?_, fun w176 => ?_⟩
        · replace h := ifTd w175 h
          refine ⟨r21.2, (hO.blk (.head _)).rowT rfl, ?_⟩
          obtain ⟨r177, e178, h⟩ := bindS h
          refine c172 n_ z0 L0 S171 r21.2 r177 e178 _ _ _ (fr1 (pu1 hO)) (fun H179 hO => ?_)
          replace hO := un1 hO
          obtain rfl := Option.some.inj h
          exact hR _ (dr1 (hO))

        · replace h := ifFd w176 h
          replace hO := open_F (pu1 hO)
          refine ⟨(some ⟨L0.opnd, 0, none⟩), 41, 41, ((hO.blk (.head _)).rdv rfl), ?_⟩
          refine ⟨S171.nv, ((hO.blk (.head _)).rdv rfl), ?_⟩
          obtain ⟨q180, h⟩ := ckS h
          refine ⟨q180, ?_⟩
          obtain ⟨x181, g182, h⟩ := getS h
          refine ⟨_, _, rfl, g182.1, g182.2.1, rfl, ?_⟩
          refine ⟨x181, ((hO.arr (.tail _ (.tail _ (.tail _ (.head _))))).rd (i := Int.toNat (S171.nv - (1 : Int))) (j := 0) lenI g182.2.2 (by decide) (zo0 _) rfl), ?_⟩
          refine ⟨fun w183 => ?_, fun w184 => ?_⟩
          · replace h := ifTd w183 h
            refine ⟨(some ⟨L0.arena, 0, none⟩), 24, 24, ((hO.blk (.head _)).rdv rfl), ?_⟩
            obtain ⟨x185, g186, h⟩ := getS h
            refine ⟨_, _, rfl, g186.1, g186.2.1, rfl, ?_⟩
            refine ⟨x185.kind, ((hO.arr (.tail _ (.tail _ (.head _)))).rd (i := Int.toNat x181) (j := 0) lenNode g186.2.2 (by decide) (zo0 _) rfl), ?_⟩
            refine ⟨fun w187 => ?_, fun w188 => ?_⟩
            · replace h := ifTd w187 h
              refine ⟨r21.2.at_, ((hO.blk (.tail _ (.tail _ (.tail _ (.tail _ (.tail _ (.tail _ (.tail _ (.head _))))))))).rdv rfl), ?_⟩
              replace hO := close_F L0 S171 (hO)
              refine c173 z0 L0 S171 (3 : Int) r21.2.at_ _ rfl _ _ _ (fr1 hO) (fun H189 hO => ?_)
              replace hO := un1 hO
              obtain rfl := Option.some.inj h
              exact hR _ (dr1 (hO))

            · replace h := ifFd w188 h
              replace hO := close_F L0 S171 (hO)
              obtain ⟨r190, e191, h⟩ := bindS h
              refine c174 z0 L0 S171 r190 e191 _ _ _ (fr1 hO) (fun H192 hO => ?_)
              replace hO := un1 hO
              refine ⟨r21.2.n, ((hO.blk (.tail _ (.head _))).rdv rfl), ?_⟩
              obtain ⟨r193, e194, h⟩ := bindS h
              refine c175 z0 L0 r190 (⟨(2 : Int), r21.2.n, (0 : Int), (0 : Int), (0 : Int)⟩ : MarkT) r193 e194 _ _ _ (fr1 hO) (fun H195 hO => ?_)
              replace hO := un1 hO
              replace hO := open_F (pu0 hO)
              refine ⟨(hO.blk (.head _)).wr (Nat.le_of_ble_eq_true rfl), ?_⟩
              intro H196 eH196
              replace hO := os0 (l' := [Value.slice (some ⟨L0.toks, 0, none⟩) 41 41, I r193.nt, I r193.k, I r193.pos, Value.slice (some ⟨L0.arena, 0, none⟩) 24 24, I r193.nn, Value.slice (some ⟨L0.opnd, 0, none⟩) 41 41, I r193.nv, Value.slice (some ⟨L0.ops, 0, none⟩) 41 41, I r193.no, Value.bool false, Value.bool r193.done, I r193.err, I r193.bad, Value.slice (some ⟨L0.notes, 0, none⟩) 24 24, Value.slice (some ⟨L0.out, 0, none⟩) 288 288, I r193.w]) hO eH196 rfl
              replace hO := close_F L0 ({ r193 with have_ := false }) (hO)
              obtain rfl := Option.some.inj h
              exact hR _ (dr1 (hO))


          · replace h := ifFd w184 h
            replace hO := close_F L0 S171 (hO)
            obtain ⟨r197, e198, h⟩ := bindS h
            refine c174 z0 L0 S171 r197 e198 _ _ _ (fr1 hO) (fun H199 hO => ?_)
            replace hO := un1 hO
            refine ⟨r21.2.n, ((hO.blk (.tail _ (.head _))).rdv rfl), ?_⟩
            obtain ⟨r200, e201, h⟩ := bindS h
            refine c175 z0 L0 r197 (⟨(2 : Int), r21.2.n, (0 : Int), (0 : Int), (0 : Int)⟩ : MarkT) r200 e201 _ _ _ (fr1 hO) (fun H202 hO => ?_)
            replace hO := un1 hO
            replace hO := open_F (pu0 hO)
            refine ⟨(hO.blk (.head _)).wr (Nat.le_of_ble_eq_true rfl), ?_⟩
            intro H203 eH203
            replace hO := os0 (l' := [Value.slice (some ⟨L0.toks, 0, none⟩) 41 41, I r200.nt, I r200.k, I r200.pos, Value.slice (some ⟨L0.arena, 0, none⟩) 24 24, I r200.nn, Value.slice (some ⟨L0.opnd, 0, none⟩) 41 41, I r200.nv, Value.slice (some ⟨L0.ops, 0, none⟩) 41 41, I r200.no, Value.bool false, Value.bool r200.done, I r200.err, I r200.bad, Value.slice (some ⟨L0.notes, 0, none⟩) 24 24, Value.slice (some ⟨L0.out, 0, none⟩) 288 288, I r200.w]) hO eH203 rfl
            replace hO := close_F L0 ({ r200 with have_ := false }) (hO)
            obtain rfl := Option.some.inj h
            exact hR _ (dr1 (hO))







theorem c209 (z0 : Int) (r_ : Bool) (h : s209 z0 = r_) (F : List Ent) (H : Heap) (R : Value → Heap → Prop)
    (hO : Own H [] F)
    (hR : ∀ (H' : Heap) , Own H' [] F → R (.bool r_) H') :
    HCalls Tryz.prog 209 #[I z0] H R := by
  refine vc209 z0 H R ?_
  unfold s209 at h
  refine ⟨fun w22 => ?_, fun w21 => ?_⟩
  · replace h := ifFd w22 h
    refine ⟨fun w24 => ?_, fun w23 => ?_⟩
    · replace h := ifFd w24 h
      refine ⟨fun w26 => ?_, fun w25 => ?_⟩
      · replace h := ifFd w26 h
        subst h
        exact hR _ hO

      · replace h := ifTd w25 h
        subst h
        exact hR _ hO


    · replace h := ifTd w23 h
      subst h
      exact hR _ hO


  · replace h := ifTd w21 h
    subst h
    exact hR _ hO



theorem c177 (n_ : Nat) (z0 : Nat) (L0 : FL) (S0 : FoS) (z1 : TokT) (r_ : FoS) (h : s177 n_ S0 z1 = some r_) (F : List Ent) (H : Heap) (R : Value → Heap → Prop)
    (hO : Own H [oF z0 L0 S0] F)
    (hR : ∀ (H' : Heap) , Own H' [oF z0 L0 r_] F → R (.tuple #[]) H') :
    HCalls Tryz.prog 177 #[Value.pointer (some ⟨z0, 0, none⟩), Value.agg ⟨encTok z1⟩] H R := by
  refine vc177 z0 z1 H R ?_
  unfold s177 at h
  intro H21 eH21
  replace hO := own_new (l := encTok z1) hO eH21 rfl
  refine ⟨fun l Hc => Own Hc [cellE 194 H.size (encTok z1), oF z0 L0 S0] F ∧ (k177_0 n_ S0 z1 (asB (nth l 0))) = some r_, ?_, ?_⟩
  · replace hO := open_F (pu1 hO)
    refine ⟨S0.no, ((hO.blk (.head _)).rdv rfl), ?_⟩
    refine ⟨fun w58 => ?_, fun w59 => ?_⟩
    · replace h := ifTd w58 h
      refine ⟨(some ⟨L0.ops, 0, none⟩), 41, 41, ((hO.blk (.head _)).rdv rfl), ?_⟩
      refine ⟨S0.no, ((hO.blk (.head _)).rdv rfl), ?_⟩
      obtain ⟨q60, h⟩ := ckS h
      refine ⟨q60, ?_⟩
      obtain ⟨x61, g62, h⟩ := getS h
      refine ⟨_, _, rfl, g62.1, g62.2.1, rfl, ?_⟩
      refine ⟨x61.kind, ((hO.arr (.tail _ (.tail _ (.tail _ (.tail _ (.head _)))))).rd (i := Int.toNat (S0.no - (1 : Int))) (j := 0) lenMark g62.2.2 (by decide) (zo0 _) rfl), ?_⟩
      refine ⟨fun w63 => ?_, fun w64 => ?_⟩
      · replace h := ifTd w63 h
        refine ⟨(some ⟨L0.ops, 0, none⟩), 41, 41, ((hO.blk (.head _)).rdv rfl), ?_⟩
        refine ⟨S0.no, ((hO.blk (.head _)).rdv rfl), ?_⟩
        refine ⟨q60, ?_⟩
        refine ⟨_, _, rfl, g62.1, g62.2.1, rfl, ?_⟩
        refine ⟨x61.op, ((hO.arr (.tail _ (.tail _ (.tail _ (.tail _ (.head _)))))).rd (i := Int.toNat (S0.no - (1 : Int))) (j := 1) lenMark g62.2.2 (by decide) (zo _ 1) rfl), ?_⟩
        refine c209 x61.op _ rfl _ _ _ (fr0 hO) (fun H65 hO => ?_)
        replace hO := un0 hO
        refine ⟨(s209 x61.op), rfl, ?_⟩
        replace hO := close_F L0 S0 (hO)
        replace hO := pu1 (pu0 hO)
        exact ⟨hO, h⟩

      · replace h := ifFd w64 h
        replace hO := close_F L0 S0 (hO)
        replace hO := pu1 (pu0 hO)
        exact ⟨hO, h⟩


    · replace h := ifFd w59 h
      replace hO := close_F L0 S0 (hO)
      replace hO := pu1 (pu0 hO)
      exact ⟨hO, h⟩


  · clear hO h
    intro H22 u23 x24 hJ
    obtain ⟨hO, h⟩ := hJ
    replace h : (k177_0 n_ S0 z1 x24) = some r_ := h
    unfold k177_0 at h
    obtain ⟨r25, e26, h⟩ := bindS h
    refine c174 z0 L0 S0 r25 e26 _ _ _ (fr1 (pu1 hO)) (fun H27 hO => ?_)
    replace hO := un1 hO
    obtain ⟨r28, e29, h⟩ := bindS h
    refine c168 z0 L0 r25 r28 e29 _ _ _ (fr1 hO) (fun H30 hO => ?_)
    replace hO := un1 hO
    refine ⟨r28.2, rfl, ?_⟩
    intro H31 eH31
    replace hO := own_new (l := encTok (⟨(0 : Int), (0 : Int), (0 : Int), (0 : Int), (0 : Int), (⟨(0 : Int), (0 : Int), false, false⟩ : RefT)⟩ : TokT)) hO eH31 rfl
    refine ⟨(hO.blk (.head _)).wr (Nat.le_of_ble_eq_true rfl), ?_⟩
    intro H32 eH32
    replace hO := oz0 (l' := encTok r28.2) hO eH32 rfl
    refine ⟨r28.2.kind, ((hO.blk (.head _)).rdv rfl), ?_⟩
    refine ⟨fun w33 => ?_, fun w34 => ?_⟩
    · replace w33 := bnotT w33
      replace h := ifFd w33 h
      refine ⟨z1.r, (hO.blk (.tail _ (.tail _ (.head _)))).rowT rfl, ?_⟩
      obtain ⟨r35, e36, h⟩ := bindS h
      refine c176 n_ z0 L0 r28.1 (⟨(3 : Int), (0 : Int), (-1 : Int), (-1 : Int), (0 : Int), z1.r, (⟨(0 : Int), (0 : Int), false, false⟩ : RefT)⟩ : NodeT) r35 e36 _ _ _ (fr1 (pu1 hO)) (fun H37 hO => ?_)
      replace hO := un1 hO
      obtain rfl := Option.some.inj h
      exact hR _ (dr1 (dr1 (hO)))

    · replace w34 := bnotF w34
      replace h := ifTd w34 h
      obtain ⟨r38, e39, h⟩ := bindS h
      refine c174 z0 L0 r28.1 r38 e39 _ _ _ (fr1 (pu1 hO)) (fun H40 hO => ?_)
      replace hO := un1 hO
      obtain ⟨r41, e42, h⟩ := bindS h
      refine c168 z0 L0 r38 r41 e42 _ _ _ (fr1 hO) (fun H43 hO => ?_)
      replace hO := un1 hO
      refine ⟨r41.2, rfl, ?_⟩
      intro H44 eH44
      replace hO := own_new (l := encTok (⟨(0 : Int), (0 : Int), (0 : Int), (0 : Int), (0 : Int), (⟨(0 : Int), (0 : Int), false, false⟩ : RefT)⟩ : TokT)) hO eH44 rfl
      refine ⟨(hO.blk (.head _)).wr (Nat.le_of_ble_eq_true rfl), ?_⟩
      intro H45 eH45
      replace hO := oz0 (l' := encTok r41.2) hO eH45 rfl
      refine ⟨r41.2.kind, ((hO.blk (.head _)).rdv rfl), ?_⟩
      refine ⟨fun w46 => ?_, fun w47 => ?_⟩
      · replace w46 := bnotT w46
        replace h := ifFd w46 h
        refine ⟨r41.2.at_, ((hO.blk (.head _)).rdv rfl), ?_⟩
        refine c173 z0 L0 r41.1 (3 : Int) r41.2.at_ _ rfl _ _ _ (fr1 (pu1 hO)) (fun H48 hO => ?_)
        replace hO := un1 hO
        obtain rfl := Option.some.inj h
        exact hR _ (dr1 (dr1 (dr1 (hO))))

      · replace w47 := bnotF w47
        replace h := ifTd w47 h
        obtain ⟨r49, e50, h⟩ := bindS h
        refine c174 z0 L0 r41.1 r49 e50 _ _ _ (fr1 (pu1 hO)) (fun H51 hO => ?_)
        replace hO := un1 hO
        refine ⟨fun w52 => ?_, fun w53 => ?_⟩
        · replace w52 := bnotT w52
          replace h := ifFb w52 h
          refine ⟨z1.at_, ((hO.blk (.tail _ (.tail _ (.tail _ (.head _))))).rdv rfl), ?_⟩
          refine c173 z0 L0 r49 (6 : Int) z1.at_ _ rfl _ _ _ (fr1 hO) (fun H54 hO => ?_)
          replace hO := un1 hO
          obtain rfl := Option.some.inj h
          exact hR _ (dr1 (dr1 (dr1 (hO))))

        · replace w53 := bnotF w53
          replace h := ifTb w53 h
          refine ⟨z1.r, (hO.blk (.tail _ (.tail _ (.tail _ (.head _))))).rowT rfl, ?_⟩
          refine ⟨r41.2.r, (hO.blk (.tail _ (.head _))).rowT rfl, ?_⟩
          obtain ⟨r55, e56, h⟩ := bindS h
          refine c176 n_ z0 L0 r49 (⟨(4 : Int), (0 : Int), (-1 : Int), (-1 : Int), (0 : Int), z1.r, r41.2.r⟩ : NodeT) r55 e56 _ _ _ (fr1 hO) (fun H57 hO => ?_)
          replace hO := un1 hO
          obtain rfl := Option.some.inj h
          exact hR _ (dr1 (dr1 (dr1 (hO))))






theorem c178 (z0 : Nat) (L0 : FL) (S0 : FoS) (z1 : TokT) (r_ : FoS) (h : s178 S0 z1 = some r_) (F : List Ent) (H : Heap) (R : Value → Heap → Prop)
    (hO : Own H [oF z0 L0 S0] F)
    (hR : ∀ (H' : Heap) , Own H' [oF z0 L0 r_] F → R (.tuple #[]) H') :
    HCalls Tryz.prog 178 #[Value.pointer (some ⟨z0, 0, none⟩), Value.agg ⟨encTok z1⟩] H R := by
  refine vc178 z0 z1 H R ?_
  unfold s178 at h
  intro H21 eH21
  replace hO := own_new (l := encTok z1) hO eH21 rfl
  obtain ⟨r22, e23, h⟩ := bindS h
  refine c174 z0 L0 S0 r22 e23 _ _ _ (fr1 (pu1 hO)) (fun H24 hO => ?_)
  replace hO := un1 hO
  obtain ⟨r25, e26, h⟩ := bindS h
  refine c168 z0 L0 r22 r25 e26 _ _ _ (fr1 hO) (fun H27 hO => ?_)
  replace hO := un1 hO
  refine ⟨r25.2, rfl, ?_⟩
  intro H28 eH28
  replace hO := own_new (l := encTok (⟨(0 : Int), (0 : Int), (0 : Int), (0 : Int), (0 : Int), (⟨(0 : Int), (0 : Int), false, false⟩ : RefT)⟩ : TokT)) hO eH28 rfl
  refine ⟨(hO.blk (.head _)).wr (Nat.le_of_ble_eq_true rfl), ?_⟩
  intro H29 eH29
  replace hO := oz0 (l' := encTok r25.2) hO eH29 rfl
  refine ⟨r25.2.kind, ((hO.blk (.head _)).rdv rfl), ?_⟩
  refine ⟨fun w30 => ?_, fun w31 => ?_⟩
  · replace w30 := bnotT w30
    replace h := ifFd w30 h
    refine ⟨z1.at_, ((hO.blk (.tail _ (.tail _ (.head _)))).rdv rfl), ?_⟩
    refine c173 z0 L0 r25.1 (5 : Int) z1.at_ _ rfl _ _ _ (fr1 (pu1 hO)) (fun H32 hO => ?_)
    replace hO := un1 hO
    obtain rfl := Option.some.inj h
    exact hR _ (dr1 (dr1 (hO)))

  · replace w31 := bnotF w31
    replace h := ifTd w31 h
    obtain ⟨r33, e34, h⟩ := bindS h
    refine c174 z0 L0 r25.1 r33 e34 _ _ _ (fr1 (pu1 hO)) (fun H35 hO => ?_)
    replace hO := un1 hO
    obtain ⟨r36, e37, h⟩ := bindS h
    refine c168 z0 L0 r33 r36 e37 _ _ _ (fr1 hO) (fun H38 hO => ?_)
    replace hO := un1 hO
    refine ⟨r36.2, rfl, ?_⟩
    intro H39 eH39
    replace hO := own_new (l := encTok (⟨(0 : Int), (0 : Int), (0 : Int), (0 : Int), (0 : Int), (⟨(0 : Int), (0 : Int), false, false⟩ : RefT)⟩ : TokT)) hO eH39 rfl
    refine ⟨(hO.blk (.head _)).wr (Nat.le_of_ble_eq_true rfl), ?_⟩
    intro H40 eH40
    replace hO := oz0 (l' := encTok r36.2) hO eH40 rfl
    refine ⟨r36.2.kind, ((hO.blk (.head _)).rdv rfl), ?_⟩
    refine ⟨fun w41 => ?_, fun w42 => ?_⟩
    · replace h := ifTd w41 h
      refine ⟨z1.at_, ((hO.blk (.tail _ (.tail _ (.tail _ (.head _))))).rdv rfl), ?_⟩
      refine c173 z0 L0 r36.1 (6 : Int) z1.at_ _ rfl _ _ _ (fr1 (pu1 hO)) (fun H43 hO => ?_)
      replace hO := un1 hO
      obtain rfl := Option.some.inj h
      exact hR _ (dr1 (dr1 (dr1 (hO))))

    · replace h := ifFd w42 h
      refine ⟨z1.n, ((hO.blk (.tail _ (.tail _ (.tail _ (.head _))))).rdv rfl), ?_⟩
      refine ⟨z1.at_, ((hO.blk (.tail _ (.tail _ (.tail _ (.head _))))).rdv rfl), ?_⟩
      obtain ⟨r44, e45, h⟩ := bindS h
      refine c175 z0 L0 r36.1 (⟨(4 : Int), z1.n, z1.at_, (0 : Int), (-1 : Int)⟩ : MarkT) r44 e45 _ _ _ (fr1 (pu1 hO)) (fun H46 hO => ?_)
      replace hO := un1 hO
      obtain rfl := Option.some.inj h
      exact hR _ (dr1 (dr1 (dr1 (hO))))




theorem c140 (n_ : Nat) (z0 : Nat) (L0 : FL) (S0 : FoS) (r_ : FoS) (h : s140 n_ S0 = some r_) (F : List Ent) (H : Heap) (R : Value → Heap → Prop)
    (hO : Own H [oF z0 L0 S0] F)
    (hR : ∀ (H' : Heap) , Own H' [oF z0 L0 r_] F → R (.tuple #[]) H') :
    HCalls Tryz.prog 140 #[Value.pointer (some ⟨z0, 0, none⟩)] H R := by
  refine vc140 z0 H R ?_
  unfold s140 at h
  obtain ⟨r21, e22, h⟩ := bindS h
  refine c168 z0 L0 S0 r21 e22 _ _ _ (fr1 hO) (fun H23 hO => ?_)
  replace hO := un1 hO
  refine ⟨r21.2, rfl, ?_⟩
  intro H24 eH24
  replace hO := own_new (l := encTok (⟨(0 : Int), (0 : Int), (0 : Int), (0 : Int), (0 : Int), (⟨(0 : Int), (0 : Int), false, false⟩ : RefT)⟩ : TokT)) hO eH24 rfl
  refine ⟨(hO.blk (.head _)).wr (Nat.le_of_ble_eq_true rfl), ?_⟩
  intro H25 eH25
  replace hO := oz0 (l' := encTok r21.2) hO eH25 rfl
  refine ⟨r21.2.kind, ((hO.blk (.head _)).rdv rfl), ?_⟩
  refine ⟨fun w26 => ?_, fun w27 => ?_⟩
  · replace h := ifTd w26 h
    obtain ⟨r28, e29, h⟩ := bindS h
    refine c174 z0 L0 r21.1 r28 e29 _ _ _ (fr1 (pu1 hO)) (fun H30 hO => ?_)
    replace hO := un1 hO
    refine ⟨r21.2.op, ((hO.blk (.tail _ (.head _))).rdv rfl), ?_⟩
    refine ⟨r21.2.n, ((hO.blk (.tail _ (.head _))).rdv rfl), ?_⟩
    obtain ⟨r31, e32, h⟩ := bindS h
    refine c176 n_ z0 L0 r28 (⟨r21.2.op, (0 : Int), (-1 : Int), (-1 : Int), r21.2.n, (⟨(0 : Int), (0 : Int), false, false⟩ : RefT), (⟨(0 : Int), (0 : Int), false, false⟩ : RefT)⟩ : NodeT) r31 e32 _ _ _ (fr1 hO) (fun H33 hO => ?_)
    replace hO := un1 hO
    obtain rfl := Option.some.inj h
    exact hR _ (dr1 (hO))

  · replace h := ifFd w27 h
    refine ⟨fun w34 => ?_, fun w35 => ?_⟩
    · replace h := ifTd w34 h
      refine ⟨r21.2, (hO.blk (.head _)).rowT rfl, ?_⟩
      obtain ⟨r36, e37, h⟩ := bindS h
      refine c177 n_ z0 L0 r21.1 r21.2 r36 e37 _ _ _ (fr1 (pu1 hO)) (fun H38 hO => ?_)
      replace hO := un1 hO
      obtain rfl := Option.some.inj h
      exact hR _ (dr1 (hO))

    · replace h := ifFd w35 h
      refine ⟨fun w39 => ?_, fun w40 => ?_⟩
      · replace h := ifTd w39 h
        refine ⟨r21.2, (hO.blk (.head _)).rowT rfl, ?_⟩
        obtain ⟨r41, e42, h⟩ := bindS h
        refine c178 z0 L0 r21.1 r21.2 r41 e42 _ _ _ (fr1 (pu1 hO)) (fun H43 hO => ?_)
        replace hO := un1 hO
        obtain rfl := Option.some.inj h
        exact hR _ (dr1 (hO))

      · replace h := ifFd w40 h
        refine ⟨fun w44 => ?_, fun w45 => ?_⟩
        · replace h := ifTd w44 h
          obtain ⟨r46, e47, h⟩ := bindS h
          refine c174 z0 L0 r21.1 r46 e47 _ _ _ (fr1 (pu1 hO)) (fun H48 hO => ?_)
          replace hO := un1 hO
          obtain ⟨r49, e50, h⟩ := bindS h
          refine c175 z0 L0 r46 (⟨(3 : Int), (0 : Int), (0 : Int), (0 : Int), (0 : Int)⟩ : MarkT) r49 e50 _ _ _ (fr1 hO) (fun H51 hO => ?_)
          replace hO := un1 hO
          obtain rfl := Option.some.inj h
          exact hR _ (dr1 (hO))

        · replace h := ifFd w45 h
          refine ⟨fun w52 => ?_, fun w53 => ?_⟩
          · replace h := ifTd w52 h
            refine ⟨r21.2.n, ((hO.blk (.head _)).rdv rfl), ?_⟩
            refine ⟨r21.2.at_, ((hO.blk (.head _)).rdv rfl), ?_⟩
            refine c173 z0 L0 r21.1 r21.2.n r21.2.at_ _ rfl _ _ _ (fr1 (pu1 hO)) (fun H54 hO => ?_)
            replace hO := un1 hO
            obtain rfl := Option.some.inj h
            exact hR _ (dr1 (hO))

          · replace h := ifFd w53 h
            refine ⟨r21.2.kind, ((hO.blk (.head _)).rdv rfl), ?_⟩
            refine ⟨fun w56 => ?_, fun w55 => ?_⟩
            · replace w56 := bnotF w56
              replace h := ifTd w56 h
              refine ⟨r21.2.n, ((hO.blk (.head _)).rdv rfl), ?_⟩
              refine ⟨fun w57 => ?_, fun w58 => ?_⟩
              · replace w57 := bnotT w57
                replace h := ifFd w57 h
                refine ⟨r21.2.at_, ((hO.blk (.head _)).rdv rfl), ?_⟩
                refine c173 z0 L0 r21.1 (3 : Int) r21.2.at_ _ rfl _ _ _ (fr1 (pu1 hO)) (fun H59 hO => ?_)
                replace hO := un1 hO
                obtain rfl := Option.some.inj h
                exact hR _ (dr1 (hO))

              · replace w58 := bnotF w58
                replace h := ifTd w58 h
                obtain ⟨r60, e61, h⟩ := bindS h
                refine c174 z0 L0 r21.1 r60 e61 _ _ _ (fr1 (pu1 hO)) (fun H62 hO => ?_)
                replace hO := un1 hO
                obtain ⟨r63, e64, h⟩ := bindS h
                refine c175 z0 L0 r60 (⟨(1 : Int), (0 : Int), (0 : Int), (0 : Int), (0 : Int)⟩ : MarkT) r63 e64 _ _ _ (fr1 hO) (fun H65 hO => ?_)
                replace hO := un1 hO
                obtain rfl := Option.some.inj h
                exact hR _ (dr1 (hO))


            · replace w55 := bnotT w55
              replace h := ifFd w55 h
              refine ⟨r21.2.at_, ((hO.blk (.head _)).rdv rfl), ?_⟩
              refine c173 z0 L0 r21.1 (3 : Int) r21.2.at_ _ rfl _ _ _ (fr1 (pu1 hO)) (fun H66 hO => ?_)
              replace hO := un1 hO
              obtain rfl := Option.some.inj h
              exact hR _ (dr1 (hO))








theorem c115 (n_ : Nat) (z0 : Nat) (L0 : FL) (S0 : FoS) (z1 : List UInt8) (r_ : FoS × TreeV) (h : s115 n_ S0 z1 = some r_) (F : List Ent) (H : Heap) (R : Value → Heap → Prop)
    (hO : Own H [oF z0 L0 S0] F)
    (hR : ∀ (H' : Heap) (a_1 : Option Addr) (c_1 : Nat) (C_1 : List Ent) (_ : SH 153 encNode r_.2.nodes a_1 r_.2.nodes.length C_1), Own H' [oF z0 L0 r_.1, C_1] F → R (.agg ⟨encTree ⟨a_1, r_.2.nodes.length, c_1, r_.2.root, r_.2.err, r_.2.pos⟩⟩) H') :
    HCalls Tryz.prog 115 #[Value.pointer (some ⟨z0, 0, none⟩), str z1] H R := by
  refine vc115 z0 z1 H R ?_
  unfold s115 at h
  intro H21 eH21
  replace hO := own_new (l := [Value.slice none 0 0, I (0 : Int), I (0 : Int), I (0 : Int)]) hO eH21 rfl
  refine ⟨fun w22 => ?_, fun w23 => ?_⟩
  · replace h := ifTd w22 h
    refine ⟨(hO.blk (.head _)).wr (Nat.le_of_ble_eq_true rfl), ?_⟩
    intro H24 eH24
    replace hO := oz0 (l' := [Value.slice none 0 0, I (-1 : Int), I (1 : Int), I (0 : Int)]) hO eH24 rfl
    refine ⟨(⟨none, 0, 0, (-1 : Int), (1 : Int), (0 : Int)⟩ : TreeT), (hO.blk (.head _)).rowT rfl, ?_⟩
    replace hO := own_nil hO
    obtain rfl := Option.some.inj h
    exact hR _ none 0 [] shNil (dr2 (pu2 (pu0 hO)))

  · replace h := ifFd w23 h
    obtain ⟨r25, e26, h⟩ := bindS h
    refine c138 n_ z0 L0 S0 z1 r25 e26 _ _ _ (fr1 (pu1 hO)) (fun H27 hO => ?_)
    replace hO := un1 hO
    replace hO := open_F (pu0 hO)
    refine ⟨(hO.blk (.head _)).wr (Nat.le_of_ble_eq_true rfl), ?_⟩
    intro H28 eH28
    replace hO := os0 (l' := [Value.slice (some ⟨L0.toks, 0, none⟩) 41 41, I r25.nt, I (0 : Int), I r25.pos, Value.slice (some ⟨L0.arena, 0, none⟩) 24 24, I r25.nn, Value.slice (some ⟨L0.opnd, 0, none⟩) 41 41, I r25.nv, Value.slice (some ⟨L0.ops, 0, none⟩) 41 41, I r25.no, Value.bool r25.have_, Value.bool r25.done, I r25.err, I r25.bad, Value.slice (some ⟨L0.notes, 0, none⟩) 24 24, Value.slice (some ⟨L0.out, 0, none⟩) 288 288, I r25.w]) hO eH28 rfl
    refine ⟨(hO.blk (.head _)).wr (Nat.le_of_ble_eq_true rfl), ?_⟩
    intro H29 eH29
    replace hO := os0 (l' := [Value.slice (some ⟨L0.toks, 0, none⟩) 41 41, I r25.nt, I (0 : Int), I (0 : Int), Value.slice (some ⟨L0.arena, 0, none⟩) 24 24, I r25.nn, Value.slice (some ⟨L0.opnd, 0, none⟩) 41 41, I r25.nv, Value.slice (some ⟨L0.ops, 0, none⟩) 41 41, I r25.no, Value.bool r25.have_, Value.bool r25.done, I r25.err, I r25.bad, Value.slice (some ⟨L0.notes, 0, none⟩) 24 24, Value.slice (some ⟨L0.out, 0, none⟩) 288 288, I r25.w]) hO eH29 rfl
    refine ⟨(hO.blk (.head _)).wr (Nat.le_of_ble_eq_true rfl), ?_⟩
    intro H30 eH30
    replace hO := os0 (l' := [Value.slice (some ⟨L0.toks, 0, none⟩) 41 41, I r25.nt, I (0 : Int), I (0 : Int), Value.slice (some ⟨L0.arena, 0, none⟩) 24 24, I r25.nn, Value.slice (some ⟨L0.opnd, 0, none⟩) 41 41, I r25.nv, Value.slice (some ⟨L0.ops, 0, none⟩) 41 41, I r25.no, Value.bool false, Value.bool r25.done, I r25.err, I r25.bad, Value.slice (some ⟨L0.notes, 0, none⟩) 24 24, Value.slice (some ⟨L0.out, 0, none⟩) 288 288, I r25.w]) hO eH30 rfl
    refine ⟨(hO.blk (.head _)).wr (Nat.le_of_ble_eq_true rfl), ?_⟩
    intro H31 eH31
    replace hO := os0 (l' := [Value.slice (some ⟨L0.toks, 0, none⟩) 41 41, I r25.nt, I (0 : Int), I (0 : Int), Value.slice (some ⟨L0.arena, 0, none⟩) 24 24, I r25.nn, Value.slice (some ⟨L0.opnd, 0, none⟩) 41 41, I r25.nv, Value.slice (some ⟨L0.ops, 0, none⟩) 41 41, I r25.no, Value.bool false, Value.bool false, I r25.err, I r25.bad, Value.slice (some ⟨L0.notes, 0, none⟩) 24 24, Value.slice (some ⟨L0.out, 0, none⟩) 288 288, I r25.w]) hO eH31 rfl
    refine ⟨(hO.blk (.head _)).wr (Nat.le_of_ble_eq_true rfl), ?_⟩
    intro H32 eH32
    replace hO := os0 (l' := [Value.slice (some ⟨L0.toks, 0, none⟩) 41 41, I r25.nt, I (0 : Int), I (0 : Int), Value.slice (some ⟨L0.arena, 0, none⟩) 24 24, I r25.nn, Value.slice (some ⟨L0.opnd, 0, none⟩) 41 41, I r25.nv, Value.slice (some ⟨L0.ops, 0, none⟩) 41 41, I r25.no, Value.bool false, Value.bool false, I (0 : Int), I r25.bad, Value.slice (some ⟨L0.notes, 0, none⟩) 24 24, Value.slice (some ⟨L0.out, 0, none⟩) 288 288, I r25.w]) hO eH32 rfl
    refine ⟨(hO.blk (.head _)).wr (Nat.le_of_ble_eq_true rfl), ?_⟩
    intro H33 eH33
    replace hO := os0 (l' := [Value.slice (some ⟨L0.toks, 0, none⟩) 41 41, I r25.nt, I (0 : Int), I (0 : Int), Value.slice (some ⟨L0.arena, 0, none⟩) 24 24, I r25.nn, Value.slice (some ⟨L0.opnd, 0, none⟩) 41 41, I r25.nv, Value.slice (some ⟨L0.ops, 0, none⟩) 41 41, I r25.no, Value.bool false, Value.bool false, I (0 : Int), I (0 : Int), Value.slice (some ⟨L0.notes, 0, none⟩) 24 24, Value.slice (some ⟨L0.out, 0, none⟩) 288 288, I r25.w]) hO eH33 rfl
    replace hO := close_F L0 ({ r25 with k := (0 : Int), pos := (0 : Int), have_ := false, done := false, err := (0 : Int), bad := (0 : Int) }) (hO)
    refine ⟨fun l Hc => ∃ m : Nat, ∃ S41 : FoS, Own Hc [oF z0 L0 S41, cellE 131 H.size [Value.slice none 0 0, I (0 : Int), I (0 : Int), I (0 : Int)]] F ∧ (l115_0 n_ m S41) = some r_, fun l Hc => Classical.epsilon <| lsp fun m => ∃ S41 : FoS, Own Hc [oF z0 L0 S41, cellE 131 H.size [Value.slice none 0 0, I (0 : Int), I (0 : Int), I (0 : Int)]] F ∧ (l115_0 n_ m S41) = some r_, ?_, ?_⟩
    · exact ⟨n_, ({ r25 with k := (0 : Int), pos := (0 : Int), have_ := false, done := false, err := (0 : Int), bad := (0 : Int) }), hO, h⟩
    · clear hO h
      intro H42 u43  hJ
      obtain ⟨m245, hm45, hJ⟩ := lst_get hJ
      obtain ⟨S41, hO, h⟩ := hJ
      rcases m245 with _ | k244
      · exact absurd h (by simp [l115_0, asI, asB, asC, asS])
      obtain ⟨rec44, hrec44, h⟩ : ∃ f_, f_ = l115_0 n_ k244 ∧ (l115_0_st n_ f_ S41) = some r_ := ⟨_, rfl, h⟩
      unfold l115_0_st at h
      replace hO := open_F (pu0 hO)
      refine ⟨S41.err, ((hO.blk (.head _)).rdv rfl), ?_⟩
      refine ⟨fun w46 => ?_, fun w47 => ?_⟩
      · replace h := ifTd w46 h
        refine ⟨S41.done, ((hO.blk (.head _)).rdv rfl), ?_⟩
        refine ⟨fun w48 => ?_, fun w49 => ?_⟩
        · replace w48 := bnotT w48
          replace h := ifFb w48 h
          refine ⟨S41.have_, ((hO.blk (.head _)).rdv rfl), ?_⟩
          refine ⟨fun w50 => ?_, fun w51 => ?_⟩
          · replace h := ifTb w50 h
            replace hO := close_F L0 S41 (hO)
            obtain ⟨r52, e53, h⟩ := bindS h
            refine c139 n_ z0 L0 S41 r52 e53 _ _ _ (fr1 hO) (fun H54 hO => ?_)
            replace hO := un1 hO
            subst hrec44
            exact lst_step hm45 ⟨r52, hO, h⟩

          · replace h := ifFb w51 h
            replace hO := close_F L0 S41 (hO)
            obtain ⟨r55, e56, h⟩ := bindS h
            refine c140 n_ z0 L0 S41 r55 e56 _ _ _ (fr1 hO) (fun H57 hO => ?_)
            replace hO := un1 hO
            subst hrec44
            exact lst_step hm45 ⟨r55, hO, h⟩


        · replace w49 := bnotF w49
          replace h := ifTb w49 h
          refine ⟨S41.err, ((hO.blk (.head _)).rdv rfl), ?_⟩
          refine ⟨S41.bad, ((hO.blk (.head _)).rdv rfl), ?_⟩
          intro H58 eH58
          replace hO := own_new (l := [Value.slice none 0 0, I (0 : Int), I (0 : Int), I (0 : Int)]) hO eH58 rfl
          refine ⟨(hO.blk (.head _)).wr (Nat.le_of_ble_eq_true rfl), ?_⟩
          intro H59 eH59
          replace hO := oz0 (l' := [Value.slice none 0 0, I (-1 : Int), I S41.err, I S41.bad]) hO eH59 rfl
          refine ⟨S41.err, ((hO.blk (.tail _ (.head _))).rdv rfl), ?_⟩
          refine ⟨fun _ => ?_, fun c => (by simp [w46] at c)⟩
          obtain ⟨q60, h⟩ := ckS h
          obtain ⟨r61, e62, h⟩ := bindS h
          obtain ⟨q69, h⟩ := ckS h
          refine ⟨?_, ?_, ?_⟩
          · refine ⟨(some ⟨L0.arena, 0, none⟩), 24, 24, ((hO.blk (.tail _ (.head _))).rdv rfl), ?_⟩
            refine ⟨?_, ?_⟩
            · refine ⟨S41.nn, ((hO.blk (.tail _ (.head _))).rdv rfl), ?_⟩
              refine ⟨q60.1, q60.2, ?_⟩
              refine ⟨?_, ?_⟩
              · refine c121 L0.arena S41.arena (Int.toNat S41.nn) 24 r61 e62 _ _ _ (fr1 (pu3 hO)) (fun H113 a114 m115 k116 C117 hs118 hO => ?_)
                replace hO := un2 hO
                obtain rfl := hs118.1
                refine ⟨a114, r61.length, k116, rfl, ?_⟩
                refine ⟨S41.nn, ((hO.blk (.tail _ (.tail _ (.tail _ (.head _))))).rdv rfl), ?_⟩
                refine ⟨q69, ?_⟩
                refine ⟨(hO.blk (.tail _ (.tail _ (.head _)))).wr (Nat.le_of_ble_eq_true rfl), ?_⟩
                intro H119 eH119
                replace hO := oz2 (l' := [Value.slice a114 r61.length k116, I (S41.nn - (1 : Int)), I (0 : Int), I (0 : Int)]) hO eH119 rfl
                refine ⟨(hO.blk (.tail _ (.tail _ (.tail _ (.head _))))).wr (Nat.le_of_ble_eq_true rfl), ?_⟩
                intro H120 eH120
                replace hO := os3 (l' := [Value.slice (some ⟨L0.toks, 0, none⟩) 41 41, I (0 : Int), I S41.k, I S41.pos, Value.slice (some ⟨L0.arena, 0, none⟩) 24 24, I S41.nn, Value.slice (some ⟨L0.opnd, 0, none⟩) 41 41, I S41.nv, Value.slice (some ⟨L0.ops, 0, none⟩) 41 41, I S41.no, Value.bool S41.have_, Value.bool S41.done, I S41.err, I S41.bad, Value.slice (some ⟨L0.notes, 0, none⟩) 24 24, Value.slice (some ⟨L0.out, 0, none⟩) 288 288, I S41.w]) hO eH120 rfl
                refine ⟨(hO.blk (.tail _ (.tail _ (.tail _ (.head _))))).wr (Nat.le_of_ble_eq_true rfl), ?_⟩
                intro H121 eH121
                replace hO := os3 (l' := [Value.slice (some ⟨L0.toks, 0, none⟩) 41 41, I (0 : Int), I S41.k, I S41.pos, Value.slice (some ⟨L0.arena, 0, none⟩) 24 24, I (0 : Int), Value.slice (some ⟨L0.opnd, 0, none⟩) 41 41, I S41.nv, Value.slice (some ⟨L0.ops, 0, none⟩) 41 41, I S41.no, Value.bool S41.have_, Value.bool S41.done, I S41.err, I S41.bad, Value.slice (some ⟨L0.notes, 0, none⟩) 24 24, Value.slice (some ⟨L0.out, 0, none⟩) 288 288, I S41.w]) hO eH121 rfl
                refine ⟨(hO.blk (.tail _ (.tail _ (.tail _ (.head _))))).wr (Nat.le_of_ble_eq_true rfl), ?_⟩
                intro H122 eH122
                replace hO := os3 (l' := [Value.slice (some ⟨L0.toks, 0, none⟩) 41 41, I (0 : Int), I S41.k, I S41.pos, Value.slice (some ⟨L0.arena, 0, none⟩) 24 24, I (0 : Int), Value.slice (some ⟨L0.opnd, 0, none⟩) 41 41, I (0 : Int), Value.slice (some ⟨L0.ops, 0, none⟩) 41 41, I S41.no, Value.bool S41.have_, Value.bool S41.done, I S41.err, I S41.bad, Value.slice (some ⟨L0.notes, 0, none⟩) 24 24, Value.slice (some ⟨L0.out, 0, none⟩) 288 288, I S41.w]) hO eH122 rfl
                refine ⟨(hO.blk (.tail _ (.tail _ (.tail _ (.head _))))).wr (Nat.le_of_ble_eq_true rfl), ?_⟩
                intro H123 eH123
                replace hO := os3 (l' := [Value.slice (some ⟨L0.toks, 0, none⟩) 41 41, I (0 : Int), I S41.k, I S41.pos, Value.slice (some ⟨L0.arena, 0, none⟩) 24 24, I (0 : Int), Value.slice (some ⟨L0.opnd, 0, none⟩) 41 41, I (0 : Int), Value.slice (some ⟨L0.ops, 0, none⟩) 41 41, I (0 : Int), Value.bool S41.have_, Value.bool S41.done, I S41.err, I S41.bad, Value.slice (some ⟨L0.notes, 0, none⟩) 24 24, Value.slice (some ⟨L0.out, 0, none⟩) 288 288, I S41.w]) hO eH123 rfl
                refine ⟨(⟨a114, r61.length, k116, (S41.nn - (1 : Int)), (0 : Int), (0 : Int)⟩ : TreeT), (hO.blk (.tail _ (.tail _ (.head _)))).rowT rfl, ?_⟩
                refine ⟨(hO.blk (.tail _ (.tail _ (.tail _ (.tail _ (.tail _ (.tail _ (.tail _ (.tail _ (.tail _ (.head _))))))))))).wr (Nat.le_of_ble_eq_true rfl), ?_⟩
                intro H124 eH124
                replace hO := oz9 (l' := [Value.slice a114 r61.length k116, I (S41.nn - (1 : Int)), I (0 : Int), I (0 : Int)]) hO eH124 rfl
                refine ⟨(⟨a114, r61.length, k116, (S41.nn - (1 : Int)), (0 : Int), (0 : Int)⟩ : TreeT), (hO.blk (.tail _ (.tail _ (.tail _ (.tail _ (.tail _ (.tail _ (.tail _ (.tail _ (.tail _ (.head _))))))))))).rowT rfl, ?_⟩
                replace hO := close_F L0 ({ S41 with nt := (0 : Int), nn := (0 : Int), nv := (0 : Int), no := (0 : Int) }) (pu8 (pu8 (pu4 (pu8 (pu8 (pu8 (pu8 hO)))))))
                obtain rfl := Option.some.inj h
                exact hR _ a114 k116 C117 hs118 (dr2 (dr2 (hO)))

              · refine ⟨S41.nn, ((hO.blk (.tail _ (.head _))).rdv rfl), ?_⟩
                refine ⟨q69, ?_⟩
                refine c121 L0.arena S41.arena (Int.toNat S41.nn) 24 r61 e62 _ _ _ (fr1 (pu3 hO)) (fun H125 a126 m127 k128 C129 hs130 hO => ?_)
                replace hO := un2 hO
                obtain rfl := hs130.1
                refine ⟨a126, r61.length, k128, rfl, ?_⟩
                refine ⟨(hO.blk (.tail _ (.tail _ (.head _)))).wr (Nat.le_of_ble_eq_true rfl), ?_⟩
                intro H131 eH131
                replace hO := oz2 (l' := [Value.slice a126 r61.length k128, I (S41.nn - (1 : Int)), I (0 : Int), I (0 : Int)]) hO eH131 rfl
                refine ⟨(hO.blk (.tail _ (.tail _ (.tail _ (.head _))))).wr (Nat.le_of_ble_eq_true rfl), ?_⟩
                intro H132 eH132
                replace hO := os3 (l' := [Value.slice (some ⟨L0.toks, 0, none⟩) 41 41, I (0 : Int), I S41.k, I S41.pos, Value.slice (some ⟨L0.arena, 0, none⟩) 24 24, I S41.nn, Value.slice (some ⟨L0.opnd, 0, none⟩) 41 41, I S41.nv, Value.slice (some ⟨L0.ops, 0, none⟩) 41 41, I S41.no, Value.bool S41.have_, Value.bool S41.done, I S41.err, I S41.bad, Value.slice (some ⟨L0.notes, 0, none⟩) 24 24, Value.slice (some ⟨L0.out, 0, none⟩) 288 288, I S41.w]) hO eH132 rfl
                refine ⟨(hO.blk (.tail _ (.tail _ (.tail _ (.head _))))).wr (Nat.le_of_ble_eq_true rfl), ?_⟩
                intro H133 eH133
                replace hO := os3 (l' := [Value.slice (some ⟨L0.toks, 0, none⟩) 41 41, I (0 : Int), I S41.k, I S41.pos, Value.slice (some ⟨L0.arena, 0, none⟩) 24 24, I (0 : Int), Value.slice (some ⟨L0.opnd, 0, none⟩) 41 41, I S41.nv, Value.slice (some ⟨L0.ops, 0, none⟩) 41 41, I S41.no, Value.bool S41.have_, Value.bool S41.done, I S41.err, I S41.bad, Value.slice (some ⟨L0.notes, 0, none⟩) 24 24, Value.slice (some ⟨L0.out, 0, none⟩) 288 288, I S41.w]) hO eH133 rfl
                refine ⟨(hO.blk (.tail _ (.tail _ (.tail _ (.head _))))).wr (Nat.le_of_ble_eq_true rfl), ?_⟩
                intro H134 eH134
                replace hO := os3 (l' := [Value.slice (some ⟨L0.toks, 0, none⟩) 41 41, I (0 : Int), I S41.k, I S41.pos, Value.slice (some ⟨L0.arena, 0, none⟩) 24 24, I (0 : Int), Value.slice (some ⟨L0.opnd, 0, none⟩) 41 41, I (0 : Int), Value.slice (some ⟨L0.ops, 0, none⟩) 41 41, I S41.no, Value.bool S41.have_, Value.bool S41.done, I S41.err, I S41.bad, Value.slice (some ⟨L0.notes, 0, none⟩) 24 24, Value.slice (some ⟨L0.out, 0, none⟩) 288 288, I S41.w]) hO eH134 rfl
                refine ⟨(hO.blk (.tail _ (.tail _ (.tail _ (.head _))))).wr (Nat.le_of_ble_eq_true rfl), ?_⟩
                intro H135 eH135
                replace hO := os3 (l' := [Value.slice (some ⟨L0.toks, 0, none⟩) 41 41, I (0 : Int), I S41.k, I S41.pos, Value.slice (some ⟨L0.arena, 0, none⟩) 24 24, I (0 : Int), Value.slice (some ⟨L0.opnd, 0, none⟩) 41 41, I (0 : Int), Value.slice (some ⟨L0.ops, 0, none⟩) 41 41, I (0 : Int), Value.bool S41.have_, Value.bool S41.done, I S41.err, I S41.bad, Value.slice (some ⟨L0.notes, 0, none⟩) 24 24, Value.slice (some ⟨L0.out, 0, none⟩) 288 288, I S41.w]) hO eH135 rfl
                refine ⟨(⟨a126, r61.length, k128, (S41.nn - (1 : Int)), (0 : Int), (0 : Int)⟩ : TreeT), (hO.blk (.tail _ (.tail _ (.head _)))).rowT rfl, ?_⟩
                refine ⟨(hO.blk (.tail _ (.tail _ (.tail _ (.tail _ (.tail _ (.tail _ (.tail _ (.tail _ (.tail _ (.head _))))))))))).wr (Nat.le_of_ble_eq_true rfl), ?_⟩
                intro H136 eH136
                replace hO := oz9 (l' := [Value.slice a126 r61.length k128, I (S41.nn - (1 : Int)), I (0 : Int), I (0 : Int)]) hO eH136 rfl
                refine ⟨(⟨a126, r61.length, k128, (S41.nn - (1 : Int)), (0 : Int), (0 : Int)⟩ : TreeT), (hO.blk (.tail _ (.tail _ (.tail _ (.tail _ (.tail _ (.tail _ (.tail _ (.tail _ (.tail _ (.head _))))))))))).rowT rfl, ?_⟩
                replace hO := close_F L0 ({ S41 with nt := (0 : Int), nn := (0 : Int), nv := (0 : Int), no := (0 : Int) }) (pu8 (pu8 (pu4 (pu8 (pu8 (pu8 (pu8 hO)))))))
                obtain rfl := Option.some.inj h
                exact hR _ a126 k128 C129 hs130 (dr2 (dr2 (hO)))


            · refine ⟨S41.nn, ((hO.blk (.tail _ (.head _))).rdv rfl), ?_⟩
              refine ⟨q69, ?_⟩
              refine ⟨S41.nn, ((hO.blk (.tail _ (.head _))).rdv rfl), ?_⟩
              refine ⟨q60.1, q60.2, ?_⟩
              refine c121 L0.arena S41.arena (Int.toNat S41.nn) 24 r61 e62 _ _ _ (fr1 (pu3 hO)) (fun H137 a138 m139 k140 C141 hs142 hO => ?_)
              replace hO := un2 hO
              obtain rfl := hs142.1
              refine ⟨a138, r61.length, k140, rfl, ?_⟩
              refine ⟨(hO.blk (.tail _ (.tail _ (.head _)))).wr (Nat.le_of_ble_eq_true rfl), ?_⟩
              intro H143 eH143
              replace hO := oz2 (l' := [Value.slice a138 r61.length k140, I (S41.nn - (1 : Int)), I (0 : Int), I (0 : Int)]) hO eH143 rfl
              refine ⟨(hO.blk (.tail _ (.tail _ (.tail _ (.head _))))).wr (Nat.le_of_ble_eq_true rfl), ?_⟩
              intro H144 eH144
              replace hO := os3 (l' := [Value.slice (some ⟨L0.toks, 0, none⟩) 41 41, I (0 : Int), I S41.k, I S41.pos, Value.slice (some ⟨L0.arena, 0, none⟩) 24 24, I S41.nn, Value.slice (some ⟨L0.opnd, 0, none⟩) 41 41, I S41.nv, Value.slice (some ⟨L0.ops, 0, none⟩) 41 41, I S41.no, Value.bool S41.have_, Value.bool S41.done, I S41.err, I S41.bad, Value.slice (some ⟨L0.notes, 0, none⟩) 24 24, Value.slice (some ⟨L0.out, 0, none⟩) 288 288, I S41.w]) hO eH144 rfl
              refine ⟨(hO.blk (.tail _ (.tail _ (.tail _ (.head _))))).wr (Nat.le_of_ble_eq_true rfl), ?_⟩
              intro H145 eH145
              replace hO := os3 (l' := [Value.slice (some ⟨L0.toks, 0, none⟩) 41 41, I (0 : Int), I S41.k, I S41.pos, Value.slice (some ⟨L0.arena, 0, none⟩) 24 24, I (0 : Int), Value.slice (some ⟨L0.opnd, 0, none⟩) 41 41, I S41.nv, Value.slice (some ⟨L0.ops, 0, none⟩) 41 41, I S41.no, Value.bool S41.have_, Value.bool S41.done, I S41.err, I S41.bad, Value.slice (some ⟨L0.notes, 0, none⟩) 24 24, Value.slice (some ⟨L0.out, 0, none⟩) 288 288, I S41.w]) hO eH145 rfl
              refine ⟨(hO.blk (.tail _ (.tail _ (.tail _ (.head _))))).wr (Nat.le_of_ble_eq_true rfl), ?_⟩
              intro H146 eH146
              replace hO := os3 (l' := [Value.slice (some ⟨L0.toks, 0, none⟩) 41 41, I (0 : Int), I S41.k, I S41.pos, Value.slice (some ⟨L0.arena, 0, none⟩) 24 24, I (0 : Int), Value.slice (some ⟨L0.opnd, 0, none⟩) 41 41, I (0 : Int), Value.slice (some ⟨L0.ops, 0, none⟩) 41 41, I S41.no, Value.bool S41.have_, Value.bool S41.done, I S41.err, I S41.bad, Value.slice (some ⟨L0.notes, 0, none⟩) 24 24, Value.slice (some ⟨L0.out, 0, none⟩) 288 288, I S41.w]) hO eH146 rfl
              refine ⟨(hO.blk (.tail _ (.tail _ (.tail _ (.head _))))).wr (Nat.le_of_ble_eq_true rfl), ?_⟩
              intro H147 eH147
              replace hO := os3 (l' := [Value.slice (some ⟨L0.toks, 0, none⟩) 41 41, I (0 : Int), I S41.k, I S41.pos, Value.slice (some ⟨L0.arena, 0, none⟩) 24 24, I (0 : Int), Value.slice (some ⟨L0.opnd, 0, none⟩) 41 41, I (0 : Int), Value.slice (some ⟨L0.ops, 0, none⟩) 41 41, I (0 : Int), Value.bool S41.have_, Value.bool S41.done, I S41.err, I S41.bad, Value.slice (some ⟨L0.notes, 0, none⟩) 24 24, Value.slice (some ⟨L0.out, 0, none⟩) 288 288, I S41.w]) hO eH147 rfl
              refine ⟨(⟨a138, r61.length, k140, (S41.nn - (1 : Int)), (0 : Int), (0 : Int)⟩ : TreeT), (hO.blk (.tail _ (.tail _ (.head _)))).rowT rfl, ?_⟩
              refine ⟨(hO.blk (.tail _ (.tail _ (.tail _ (.tail _ (.tail _ (.tail _ (.tail _ (.tail _ (.tail _ (.head _))))))))))).wr (Nat.le_of_ble_eq_true rfl), ?_⟩
              intro H148 eH148
              replace hO := oz9 (l' := [Value.slice a138 r61.length k140, I (S41.nn - (1 : Int)), I (0 : Int), I (0 : Int)]) hO eH148 rfl
              refine ⟨(⟨a138, r61.length, k140, (S41.nn - (1 : Int)), (0 : Int), (0 : Int)⟩ : TreeT), (hO.blk (.tail _ (.tail _ (.tail _ (.tail _ (.tail _ (.tail _ (.tail _ (.tail _ (.tail _ (.head _))))))))))).rowT rfl, ?_⟩
              replace hO := close_F L0 ({ S41 with nt := (0 : Int), nn := (0 : Int), nv := (0 : Int), no := (0 : Int) }) (pu8 (pu8 (pu4 (pu8 (pu8 (pu8 (pu8 hO)))))))
              obtain rfl := Option.some.inj h
              exact hR _ a138 k140 C141 hs142 (dr2 (dr2 (hO)))


          · refine ⟨S41.nn, ((hO.blk (.tail _ (.head _))).rdv rfl), ?_⟩
            refine ⟨?_, ?_⟩
            · refine ⟨(some ⟨L0.arena, 0, none⟩), 24, 24, ((hO.blk (.tail _ (.head _))).rdv rfl), ?_⟩
              refine ⟨q60.1, q60.2, ?_⟩
              refine ⟨?_, ?_⟩
              · refine c121 L0.arena S41.arena (Int.toNat S41.nn) 24 r61 e62 _ _ _ (fr1 (pu3 hO)) (fun H170 a171 m172 k173 C174 hs175 hO => ?_)
                replace hO := un2 hO
                obtain rfl := hs175.1
                refine ⟨a171, r61.length, k173, rfl, ?_⟩
                refine ⟨S41.nn, ((hO.blk (.tail _ (.tail _ (.tail _ (.head _))))).rdv rfl), ?_⟩
                refine ⟨q69, ?_⟩
                refine ⟨(hO.blk (.tail _ (.tail _ (.head _)))).wr (Nat.le_of_ble_eq_true rfl), ?_⟩
                intro H176 eH176
                replace hO := oz2 (l' := [Value.slice a171 r61.length k173, I (S41.nn - (1 : Int)), I (0 : Int), I (0 : Int)]) hO eH176 rfl
                refine ⟨(hO.blk (.tail _ (.tail _ (.tail _ (.head _))))).wr (Nat.le_of_ble_eq_true rfl), ?_⟩
                intro H177 eH177
                replace hO := os3 (l' := [Value.slice (some ⟨L0.toks, 0, none⟩) 41 41, I (0 : Int), I S41.k, I S41.pos, Value.slice (some ⟨L0.arena, 0, none⟩) 24 24, I S41.nn, Value.slice (some ⟨L0.opnd, 0, none⟩) 41 41, I S41.nv, Value.slice (some ⟨L0.ops, 0, none⟩) 41 41, I S41.no, Value.bool S41.have_, Value.bool S41.done, I S41.err, I S41.bad, Value.slice (some ⟨L0.notes, 0, none⟩) 24 24, Value.slice (some ⟨L0.out, 0, none⟩) 288 288, I S41.w]) hO eH177 rfl
                refine ⟨(hO.blk (.tail _ (.tail _ (.tail _ (.head _))))).wr (Nat.le_of_ble_eq_true rfl), ?_⟩
                intro H178 eH178
                replace hO := os3 (l' := [Value.slice (some ⟨L0.toks, 0, none⟩) 41 41, I (0 : Int), I S41.k, I S41.pos, Value.slice (some ⟨L0.arena, 0, none⟩) 24 24, I (0 : Int), Value.slice (some ⟨L0.opnd, 0, none⟩) 41 41, I S41.nv, Value.slice (some ⟨L0.ops, 0, none⟩) 41 41, I S41.no, Value.bool S41.have_, Value.bool S41.done, I S41.err, I S41.bad, Value.slice (some ⟨L0.notes, 0, none⟩) 24 24, Value.slice (some ⟨L0.out, 0, none⟩) 288 288, I S41.w]) hO eH178 rfl
                refine ⟨(hO.blk (.tail _ (.tail _ (.tail _ (.head _))))).wr (Nat.le_of_ble_eq_true rfl), ?_⟩
                intro H179 eH179
                replace hO := os3 (l' := [Value.slice (some ⟨L0.toks, 0, none⟩) 41 41, I (0 : Int), I S41.k, I S41.pos, Value.slice (some ⟨L0.arena, 0, none⟩) 24 24, I (0 : Int), Value.slice (some ⟨L0.opnd, 0, none⟩) 41 41, I (0 : Int), Value.slice (some ⟨L0.ops, 0, none⟩) 41 41, I S41.no, Value.bool S41.have_, Value.bool S41.done, I S41.err, I S41.bad, Value.slice (some ⟨L0.notes, 0, none⟩) 24 24, Value.slice (some ⟨L0.out, 0, none⟩) 288 288, I S41.w]) hO eH179 rfl
                refine ⟨(hO.blk (.tail _ (.tail _ (.tail _ (.head _))))).wr (Nat.le_of_ble_eq_true rfl), ?_⟩
                intro H180 eH180
                replace hO := os3 (l' := [Value.slice (some ⟨L0.toks, 0, none⟩) 41 41, I (0 : Int), I S41.k, I S41.pos, Value.slice (some ⟨L0.arena, 0, none⟩) 24 24, I (0 : Int), Value.slice (some ⟨L0.opnd, 0, none⟩) 41 41, I (0 : Int), Value.slice (some ⟨L0.ops, 0, none⟩) 41 41, I (0 : Int), Value.bool S41.have_, Value.bool S41.done, I S41.err, I S41.bad, Value.slice (some ⟨L0.notes, 0, none⟩) 24 24, Value.slice (some ⟨L0.out, 0, none⟩) 288 288, I S41.w]) hO eH180 rfl
                refine ⟨(⟨a171, r61.length, k173, (S41.nn - (1 : Int)), (0 : Int), (0 : Int)⟩ : TreeT), (hO.blk (.tail _ (.tail _ (.head _)))).rowT rfl, ?_⟩
                refine ⟨(hO.blk (.tail _ (.tail _ (.tail _ (.tail _ (.tail _ (.tail _ (.tail _ (.tail _ (.tail _ (.head _))))))))))).wr (Nat.le_of_ble_eq_true rfl), ?_⟩
                intro H181 eH181
                replace hO := oz9 (l' := [Value.slice a171 r61.length k173, I (S41.nn - (1 : Int)), I (0 : Int), I (0 : Int)]) hO eH181 rfl
                refine ⟨(⟨a171, r61.length, k173, (S41.nn - (1 : Int)), (0 : Int), (0 : Int)⟩ : TreeT), (hO.blk (.tail _ (.tail _ (.tail _ (.tail _ (.tail _ (.tail _ (.tail _ (.tail _ (.tail _ (.head _))))))))))).rowT rfl, ?_⟩
                replace hO := close_F L0 ({ S41 with nt := (0 : Int), nn := (0 : Int), nv := (0 : Int), no := (0 : Int) }) (pu8 (pu8 (pu4 (pu8 (pu8 (pu8 (pu8 hO)))))))
                obtain rfl := Option.some.inj h
                exact hR _ a171 k173 C174 hs175 (dr2 (dr2 (hO)))

              · refine ⟨S41.nn, ((hO.blk (.tail _ (.head _))).rdv rfl), ?_⟩
                refine ⟨q69, ?_⟩
                refine c121 L0.arena S41.arena (Int.toNat S41.nn) 24 r61 e62 _ _ _ (fr1 (pu3 hO)) (fun H182 a183 m184 k185 C186 hs187 hO => ?_)
                replace hO := un2 hO
                obtain rfl := hs187.1
                refine ⟨a183, r61.length, k185, rfl, ?_⟩
                refine ⟨(hO.blk (.tail _ (.tail _ (.head _)))).wr (Nat.le_of_ble_eq_true rfl), ?_⟩
                intro H188 eH188
                replace hO := oz2 (l' := [Value.slice a183 r61.length k185, I (S41.nn - (1 : Int)), I (0 : Int), I (0 : Int)]) hO eH188 rfl
                refine ⟨(hO.blk (.tail _ (.tail _ (.tail _ (.head _))))).wr (Nat.le_of_ble_eq_true rfl), ?_⟩
                intro H189 eH189
                replace hO := os3 (l' := [Value.slice (some ⟨L0.toks, 0, none⟩) 41 41, I (0 : Int), I S41.k, I S41.pos, Value.slice (some ⟨L0.arena, 0, none⟩) 24 24, I S41.nn, Value.slice (some ⟨L0.opnd, 0, none⟩) 41 41, I S41.nv, Value.slice (some ⟨L0.ops, 0, none⟩) 41 41, I S41.no, Value.bool S41.have_, Value.bool S41.done, I S41.err, I S41.bad, Value.slice (some ⟨L0.notes, 0, none⟩) 24 24, Value.slice (some ⟨L0.out, 0, none⟩) 288 288, I S41.w]) hO eH189 rfl
                refine ⟨(hO.blk (.tail _ (.tail _ (.tail _ (.head _))))).wr (Nat.le_of_ble_eq_true rfl), ?_⟩
                intro H190 eH190
                replace hO := os3 (l' := [Value.slice (some ⟨L0.toks, 0, none⟩) 41 41, I (0 : Int), I S41.k, I S41.pos, Value.slice (some ⟨L0.arena, 0, none⟩) 24 24, I (0 : Int), Value.slice (some ⟨L0.opnd, 0, none⟩) 41 41, I S41.nv, Value.slice (some ⟨L0.ops, 0, none⟩) 41 41, I S41.no, Value.bool S41.have_, Value.bool S41.done, I S41.err, I S41.bad, Value.slice (some ⟨L0.notes, 0, none⟩) 24 24, Value.slice (some ⟨L0.out, 0, none⟩) 288 288, I S41.w]) hO eH190 rfl
                refine ⟨(hO.blk (.tail _ (.tail _ (.tail _ (.head _))))).wr (Nat.le_of_ble_eq_true rfl), ?_⟩
                intro H191 eH191
                replace hO := os3 (l' := [Value.slice (some ⟨L0.toks, 0, none⟩) 41 41, I (0 : Int), I S41.k, I S41.pos, Value.slice (some ⟨L0.arena, 0, none⟩) 24 24, I (0 : Int), Value.slice (some ⟨L0.opnd, 0, none⟩) 41 41, I (0 : Int), Value.slice (some ⟨L0.ops, 0, none⟩) 41 41, I S41.no, Value.bool S41.have_, Value.bool S41.done, I S41.err, I S41.bad, Value.slice (some ⟨L0.notes, 0, none⟩) 24 24, Value.slice (some ⟨L0.out, 0, none⟩) 288 288, I S41.w]) hO eH191 rfl
                refine ⟨(hO.blk (.tail _ (.tail _ (.tail _ (.head _))))).wr (Nat.le_of_ble_eq_true rfl), ?_⟩
                intro H192 eH192
                replace hO := os3 (l' := [Value.slice (some ⟨L0.toks, 0, none⟩) 41 41, I (0 : Int), I S41.k, I S41.pos, Value.slice (some ⟨L0.arena, 0, none⟩) 24 24, I (0 : Int), Value.slice (some ⟨L0.opnd, 0, none⟩) 41 41, I (0 : Int), Value.slice (some ⟨L0.ops, 0, none⟩) 41 41, I (0 : Int), Value.bool S41.have_, Value.bool S41.done, I S41.err, I S41.bad, Value.slice (some ⟨L0.notes, 0, none⟩) 24 24, Value.slice (some ⟨L0.out, 0, none⟩) 288 288, I S41.w]) hO eH192 rfl
                refine ⟨(⟨a183, r61.length, k185, (S41.nn - (1 : Int)), (0 : Int), (0 : Int)⟩ : TreeT), (hO.blk (.tail _ (.tail _ (.head _)))).rowT rfl, ?_⟩
                refine ⟨(hO.blk (.tail _ (.tail _ (.tail _ (.tail _ (.tail _ (.tail _ (.tail _ (.tail _ (.tail _ (.head _))))))))))).wr (Nat.le_of_ble_eq_true rfl), ?_⟩
                intro H193 eH193
                replace hO := oz9 (l' := [Value.slice a183 r61.length k185, I (S41.nn - (1 : Int)), I (0 : Int), I (0 : Int)]) hO eH193 rfl
                refine ⟨(⟨a183, r61.length, k185, (S41.nn - (1 : Int)), (0 : Int), (0 : Int)⟩ : TreeT), (hO.blk (.tail _ (.tail _ (.tail _ (.tail _ (.tail _ (.tail _ (.tail _ (.tail _ (.tail _ (.head _))))))))))).rowT rfl, ?_⟩
                replace hO := close_F L0 ({ S41 with nt := (0 : Int), nn := (0 : Int), nv := (0 : Int), no := (0 : Int) }) (pu8 (pu8 (pu4 (pu8 (pu8 (pu8 (pu8 hO)))))))
                obtain rfl := Option.some.inj h
                exact hR _ a183 k185 C186 hs187 (dr2 (dr2 (hO)))


            · refine ⟨S41.nn, ((hO.blk (.tail _ (.head _))).rdv rfl), ?_⟩
              refine ⟨q69, ?_⟩
              refine ⟨(some ⟨L0.arena, 0, none⟩), 24, 24, ((hO.blk (.tail _ (.head _))).rdv rfl), ?_⟩
              refine ⟨q60.1, q60.2, ?_⟩
              refine c121 L0.arena S41.arena (Int.toNat S41.nn) 24 r61 e62 _ _ _ (fr1 (pu3 hO)) (fun H194 a195 m196 k197 C198 hs199 hO => ?_)
              replace hO := un2 hO
              obtain rfl := hs199.1
              refine ⟨a195, r61.length, k197, rfl, ?_⟩
              refine ⟨(hO.blk (.tail _ (.tail _ (.head _)))).wr (Nat.le_of_ble_eq_true rfl), ?_⟩
              intro H200 eH200
              replace hO := oz2 (l' := [Value.slice a195 r61.length k197, I (S41.nn - (1 : Int)), I (0 : Int), I (0 : Int)]) hO eH200 rfl
              refine ⟨(hO.blk (.tail _ (.tail _ (.tail _ (.head _))))).wr (Nat.le_of_ble_eq_true rfl), ?_⟩
              intro H201 eH201
              replace hO := os3 (l' := [Value.slice (some ⟨L0.toks, 0, none⟩) 41 41, I (0 : Int), I S41.k, I S41.pos, Value.slice (some ⟨L0.arena, 0, none⟩) 24 24, I S41.nn, Value.slice (some ⟨L0.opnd, 0, none⟩) 41 41, I S41.nv, Value.slice (some ⟨L0.ops, 0, none⟩) 41 41, I S41.no, Value.bool S41.have_, Value.bool S41.done, I S41.err, I S41.bad, Value.slice (some ⟨L0.notes, 0, none⟩) 24 24, Value.slice (some ⟨L0.out, 0, none⟩) 288 288, I S41.w]) hO eH201 rfl
              refine ⟨(hO.blk (.tail _ (.tail _ (.tail _ (.head _))))).wr (Nat.le_of_ble_eq_true rfl), ?_⟩
              intro H202 eH202
              replace hO := os3 (l' := [Value.slice (some ⟨L0.toks, 0, none⟩) 41 41, I (0 : Int), I S41.k, I S41.pos, Value.slice (some ⟨L0.arena, 0, none⟩) 24 24, I (0 : Int), Value.slice (some ⟨L0.opnd, 0, none⟩) 41 41, I S41.nv, Value.slice (some ⟨L0.ops, 0, none⟩) 41 41, I S41.no, Value.bool S41.have_, Value.bool S41.done, I S41.err, I S41.bad, Value.slice (some ⟨L0.notes, 0, none⟩) 24 24, Value.slice (some ⟨L0.out, 0, none⟩) 288 288, I S41.w]) hO eH202 rfl
              refine ⟨(hO.blk (.tail _ (.tail _ (.tail _ (.head _))))).wr (Nat.le_of_ble_eq_true rfl), ?_⟩
              intro H203 eH203
              replace hO := os3 (l' := [Value.slice (some ⟨L0.toks, 0, none⟩) 41 41, I (0 : Int), I S41.k, I S41.pos, Value.slice (some ⟨L0.arena, 0, none⟩) 24 24, I (0 : Int), Value.slice (some ⟨L0.opnd, 0, none⟩) 41 41, I (0 : Int), Value.slice (some ⟨L0.ops, 0, none⟩) 41 41, I S41.no, Value.bool S41.have_, Value.bool S41.done, I S41.err, I S41.bad, Value.slice (some ⟨L0.notes, 0, none⟩) 24 24, Value.slice (some ⟨L0.out, 0, none⟩) 288 288, I S41.w]) hO eH203 rfl
              refine ⟨(hO.blk (.tail _ (.tail _ (.tail _ (.head _))))).wr (Nat.le_of_ble_eq_true rfl), ?_⟩
              intro H204 eH204
              replace hO := os3 (l' := [Value.slice (some ⟨L0.toks, 0, none⟩) 41 41, I (0 : Int), I S41.k, I S41.pos, Value.slice (some ⟨L0.arena, 0, none⟩) 24 24, I (0 : Int), Value.slice (some ⟨L0.opnd, 0, none⟩) 41 41, I (0 : Int), Value.slice (some ⟨L0.ops, 0, none⟩) 41 41, I (0 : Int), Value.bool S41.have_, Value.bool S41.done, I S41.err, I S41.bad, Value.slice (some ⟨L0.notes, 0, none⟩) 24 24, Value.slice (some ⟨L0.out, 0, none⟩) 288 288, I S41.w]) hO eH204 rfl
              refine ⟨(⟨a195, r61.length, k197, (S41.nn - (1 : Int)), (0 : Int), (0 : Int)⟩ : TreeT), (hO.blk (.tail _ (.tail _ (.head _)))).rowT rfl, ?_⟩
              refine ⟨(hO.blk (.tail _ (.tail _ (.tail _ (.tail _ (.tail _ (.tail _ (.tail _ (.tail _ (.tail _ (.head _))))))))))).wr (Nat.le_of_ble_eq_true rfl), ?_⟩
              intro H205 eH205
              replace hO := oz9 (l' := [Value.slice a195 r61.length k197, I (S41.nn - (1 : Int)), I (0 : Int), I (0 : Int)]) hO eH205 rfl
              refine ⟨(⟨a195, r61.length, k197, (S41.nn - (1 : Int)), (0 : Int), (0 : Int)⟩ : TreeT), (hO.blk (.tail _ (.tail _ (.tail _ (.tail _ (.tail _ (.tail _ (.tail _ (.tail _ (.tail _ (.head _))))))))))).rowT rfl, ?_⟩
              replace hO := close_F L0 ({ S41 with nt := (0 : Int), nn := (0 : Int), nv := (0 : Int), no := (0 : Int) }) (pu8 (pu8 (pu4 (pu8 (pu8 (pu8 (pu8 hO)))))))
              obtain rfl := Option.some.inj h
              exact hR _ a195 k197 C198 hs199 (dr2 (dr2 (hO)))


          · refine ⟨S41.nn, ((hO.blk (.tail _ (.head _))).rdv rfl), ?_⟩
            refine ⟨q69, ?_⟩
            refine ⟨?_, ?_⟩
            · refine ⟨(some ⟨L0.arena, 0, none⟩), 24, 24, ((hO.blk (.tail _ (.head _))).rdv rfl), ?_⟩
              refine ⟨S41.nn, ((hO.blk (.tail _ (.head _))).rdv rfl), ?_⟩
              refine ⟨q60.1, q60.2, ?_⟩
              refine c121 L0.arena S41.arena (Int.toNat S41.nn) 24 r61 e62 _ _ _ (fr1 (pu3 hO)) (fun H213 a214 m215 k216 C217 hs218 hO => ?_)
              replace hO := un2 hO
              obtain rfl := hs218.1
              refine ⟨a214, r61.length, k216, rfl, ?_⟩
              refine ⟨(hO.blk (.tail _ (.tail _ (.head _)))).wr (Nat.le_of_ble_eq_true rfl), ?_⟩
              intro H219 eH219
              replace hO := oz2 (l' := [Value.slice a214 r61.length k216, I (S41.nn - (1 : Int)), I (0 : Int), I (0 : Int)]) hO eH219 rfl
              refine ⟨(hO.blk (.tail _ (.tail _ (.tail _ (.head _))))).wr (Nat.le_of_ble_eq_true rfl), ?_⟩
              intro H220 eH220
              replace hO := os3 (l' := [Value.slice (some ⟨L0.toks, 0, none⟩) 41 41, I (0 : Int), I S41.k, I S41.pos, Value.slice (some ⟨L0.arena, 0, none⟩) 24 24, I S41.nn, Value.slice (some ⟨L0.opnd, 0, none⟩) 41 41, I S41.nv, Value.slice (some ⟨L0.ops, 0, none⟩) 41 41, I S41.no, Value.bool S41.have_, Value.bool S41.done, I S41.err, I S41.bad, Value.slice (some ⟨L0.notes, 0, none⟩) 24 24, Value.slice (some ⟨L0.out, 0, none⟩) 288 288, I S41.w]) hO eH220 rfl
              refine ⟨(hO.blk (.tail _ (.tail _ (.tail _ (.head _))))).wr (Nat.le_of_ble_eq_true rfl), ?_⟩
              intro H221 eH221
              replace hO := os3 (l' := [Value.slice (some ⟨L0.toks, 0, none⟩) 41 41, I (0 : Int), I S41.k, I S41.pos, Value.slice (some ⟨L0.arena, 0, none⟩) 24 24, I (0 : Int), Value.slice (some ⟨L0.opnd, 0, none⟩) 41 41, I S41.nv, Value.slice (some ⟨L0.ops, 0, none⟩) 41 41, I S41.no, Value.bool S41.have_, Value.bool S41.done, I S41.err, I S41.bad, Value.slice (some ⟨L0.notes, 0, none⟩) 24 24, Value.slice (some ⟨L0.out, 0, none⟩) 288 288, I S41.w]) hO eH221 rfl
              refine ⟨(hO.blk (.tail _ (.tail _ (.tail _ (.head _))))).wr (Nat.le_of_ble_eq_true rfl), ?_⟩
              intro H222 eH222
              replace hO := os3 (l' := [Value.slice (some ⟨L0.toks, 0, none⟩) 41 41, I (0 : Int), I S41.k, I S41.pos, Value.slice (some ⟨L0.arena, 0, none⟩) 24 24, I (0 : Int), Value.slice (some ⟨L0.opnd, 0, none⟩) 41 41, I (0 : Int), Value.slice (some ⟨L0.ops, 0, none⟩) 41 41, I S41.no, Value.bool S41.have_, Value.bool S41.done, I S41.err, I S41.bad, Value.slice (some ⟨L0.notes, 0, none⟩) 24 24, Value.slice (some ⟨L0.out, 0, none⟩) 288 288, I S41.w]) hO eH222 rfl
              refine ⟨(hO.blk (.tail _ (.tail _ (.tail _ (.head _))))).wr (Nat.le_of_ble_eq_true rfl), ?_⟩
              intro H223 eH223
              replace hO := os3 (l' := [Value.slice (some ⟨L0.toks, 0, none⟩) 41 41, I (0 : Int), I S41.k, I S41.pos, Value.slice (some ⟨L0.arena, 0, none⟩) 24 24, I (0 : Int), Value.slice (some ⟨L0.opnd, 0, none⟩) 41 41, I (0 : Int), Value.slice (some ⟨L0.ops, 0, none⟩) 41 41, I (0 : Int), Value.bool S41.have_, Value.bool S41.done, I S41.err, I S41.bad, Value.slice (some ⟨L0.notes, 0, none⟩) 24 24, Value.slice (some ⟨L0.out, 0, none⟩) 288 288, I S41.w]) hO eH223 rfl
              refine ⟨(⟨a214, r61.length, k216, (S41.nn - (1 : Int)), (0 : Int), (0 : Int)⟩ : TreeT), (hO.blk (.tail _ (.tail _ (.head _)))).rowT rfl, ?_⟩
              refine ⟨(hO.blk (.tail _ (.tail _ (.tail _ (.tail _ (.tail _ (.tail _ (.tail _ (.tail _ (.tail _ (.head _))))))))))).wr (Nat.le_of_ble_eq_true rfl), ?_⟩
              intro H224 eH224
              replace hO := oz9 (l' := [Value.slice a214 r61.length k216, I (S41.nn - (1 : Int)), I (0 : Int), I (0 : Int)]) hO eH224 rfl
              refine ⟨(⟨a214, r61.length, k216, (S41.nn - (1 : Int)), (0 : Int), (0 : Int)⟩ : TreeT), (hO.blk (.tail _ (.tail _ (.tail _ (.tail _ (.tail _ (.tail _ (.tail _ (.tail _ (.tail _ (.head _))))))))))).rowT rfl, ?_⟩
              replace hO := close_F L0 ({ S41 with nt := (0 : Int), nn := (0 : Int), nv := (0 : Int), no := (0 : Int) }) (pu8 (pu8 (pu4 (pu8 (pu8 (pu8 (pu8 hO)))))))
              obtain rfl := Option.some.inj h
              exact hR _ a214 k216 C217 hs218 (dr2 (dr2 (hO)))

            · refine ⟨S41.nn, ((hO.blk (.tail _ (.head _))).rdv rfl), ?_⟩
              refine ⟨(some ⟨L0.arena, 0, none⟩), 24, 24, ((hO.blk (.tail _ (.head _))).rdv rfl), ?_⟩
              refine ⟨q60.1, q60.2, ?_⟩
              refine c121 L0.arena S41.arena (Int.toNat S41.nn) 24 r61 e62 _ _ _ (fr1 (pu3 hO)) (fun H225 a226 m227 k228 C229 hs230 hO => ?_)
              replace hO := un2 hO
              obtain rfl := hs230.1
              refine ⟨a226, r61.length, k228, rfl, ?_⟩
              refine ⟨(hO.blk (.tail _ (.tail _ (.head _)))).wr (Nat.le_of_ble_eq_true rfl), ?_⟩
              intro H231 eH231
              replace hO := oz2 (l' := [Value.slice a226 r61.length k228, I (S41.nn - (1 : Int)), I (0 : Int), I (0 : Int)]) hO eH231 rfl
              refine ⟨(hO.blk (.tail _ (.tail _ (.tail _ (.head _))))).wr (Nat.le_of_ble_eq_true rfl), ?_⟩
              intro H232 eH232
              replace hO := os3 (l' := [Value.slice (some ⟨L0.toks, 0, none⟩) 41 41, I (0 : Int), I S41.k, I S41.pos, Value.slice (some ⟨L0.arena, 0, none⟩) 24 24, I S41.nn, Value.slice (some ⟨L0.opnd, 0, none⟩) 41 41, I S41.nv, Value.slice (some ⟨L0.ops, 0, none⟩) 41 41, I S41.no, Value.bool S41.have_, Value.bool S41.done, I S41.err, I S41.bad, Value.slice (some ⟨L0.notes, 0, none⟩) 24 24, Value.slice (some ⟨L0.out, 0, none⟩) 288 288, I S41.w]) hO eH232 rfl
              refine ⟨(hO.blk (.tail _ (.tail _ (.tail _ (.head _))))).wr (Nat.le_of_ble_eq_true rfl), ?_⟩
              intro H233 eH233
              replace hO := os3 (l' := [Value.slice (some ⟨L0.toks, 0, none⟩) 41 41, I (0 : Int), I S41.k, I S41.pos, Value.slice (some ⟨L0.arena, 0, none⟩) 24 24, I (0 : Int), Value.slice (some ⟨L0.opnd, 0, none⟩) 41 41, I S41.nv, Value.slice (some ⟨L0.ops, 0, none⟩) 41 41, I S41.no, Value.bool S41.have_, Value.bool S41.done, I S41.err, I S41.bad, Value.slice (some ⟨L0.notes, 0, none⟩) 24 24, Value.slice (some ⟨L0.out, 0, none⟩) 288 288, I S41.w]) hO eH233 rfl
              refine ⟨(hO.blk (.tail _ (.tail _ (.tail _ (.head _))))).wr (Nat.le_of_ble_eq_true rfl), ?_⟩
              intro H234 eH234
              replace hO := os3 (l' := [Value.slice (some ⟨L0.toks, 0, none⟩) 41 41, I (0 : Int), I S41.k, I S41.pos, Value.slice (some ⟨L0.arena, 0, none⟩) 24 24, I (0 : Int), Value.slice (some ⟨L0.opnd, 0, none⟩) 41 41, I (0 : Int), Value.slice (some ⟨L0.ops, 0, none⟩) 41 41, I S41.no, Value.bool S41.have_, Value.bool S41.done, I S41.err, I S41.bad, Value.slice (some ⟨L0.notes, 0, none⟩) 24 24, Value.slice (some ⟨L0.out, 0, none⟩) 288 288, I S41.w]) hO eH234 rfl
              refine ⟨(hO.blk (.tail _ (.tail _ (.tail _ (.head _))))).wr (Nat.le_of_ble_eq_true rfl), ?_⟩
              intro H235 eH235
              replace hO := os3 (l' := [Value.slice (some ⟨L0.toks, 0, none⟩) 41 41, I (0 : Int), I S41.k, I S41.pos, Value.slice (some ⟨L0.arena, 0, none⟩) 24 24, I (0 : Int), Value.slice (some ⟨L0.opnd, 0, none⟩) 41 41, I (0 : Int), Value.slice (some ⟨L0.ops, 0, none⟩) 41 41, I (0 : Int), Value.bool S41.have_, Value.bool S41.done, I S41.err, I S41.bad, Value.slice (some ⟨L0.notes, 0, none⟩) 24 24, Value.slice (some ⟨L0.out, 0, none⟩) 288 288, I S41.w]) hO eH235 rfl
              refine ⟨(⟨a226, r61.length, k228, (S41.nn - (1 : Int)), (0 : Int), (0 : Int)⟩ : TreeT), (hO.blk (.tail _ (.tail _ (.head _)))).rowT rfl, ?_⟩
              refine ⟨(hO.blk (.tail _ (.tail _ (.tail _ (.tail _ (.tail _ (.tail _ (.tail _ (.tail _ (.tail _ (.head _))))))))))).wr (Nat.le_of_ble_eq_true rfl), ?_⟩
              intro H236 eH236
              replace hO := oz9 (l' := [Value.slice a226 r61.length k228, I (S41.nn - (1 : Int)), I (0 : Int), I (0 : Int)]) hO eH236 rfl
              refine ⟨(⟨a226, r61.length, k228, (S41.nn - (1 : Int)), (0 : Int), (0 : Int)⟩ : TreeT), (hO.blk (.tail _ (.tail _ (.tail _ (.tail _ (.tail _ (.tail _ (.tail _ (.tail _ (.tail _ (.head _))))))))))).rowT rfl, ?_⟩
              replace hO := close_F L0 ({ S41 with nt := (0 : Int), nn := (0 : Int), nv := (0 : Int), no := (0 : Int) }) (pu8 (pu8 (pu4 (pu8 (pu8 (pu8 (pu8 hO)))))))
              obtain rfl := Option.some.inj h
              exact hR _ a226 k228 C229 hs230 (dr2 (dr2 (hO)))




      · replace h := ifFd w47 h
        refine ⟨S41.err, ((hO.blk (.head _)).rdv rfl), ?_⟩
        refine ⟨S41.bad, ((hO.blk (.head _)).rdv rfl), ?_⟩
        intro H237 eH237
        replace hO := own_new (l := [Value.slice none 0 0, I (0 : Int), I (0 : Int), I (0 : Int)]) hO eH237 rfl
        refine ⟨(hO.blk (.head _)).wr (Nat.le_of_ble_eq_true rfl), ?_⟩
        intro H238 eH238
        replace hO := oz0 (l' := [Value.slice none 0 0, I (-1 : Int), I S41.err, I S41.bad]) hO eH238 rfl
        refine ⟨S41.err, ((hO.blk (.tail _ (.head _))).rdv rfl), ?_⟩
        refine ⟨fun c => (by simp [w47] at c), fun _ => ?_⟩
        refine ⟨(hO.blk (.tail _ (.head _))).wr (Nat.le_of_ble_eq_true rfl), ?_⟩
        intro H239 eH239
        replace hO := os1 (l' := [Value.slice (some ⟨L0.toks, 0, none⟩) 41 41, I (0 : Int), I S41.k, I S41.pos, Value.slice (some ⟨L0.arena, 0, none⟩) 24 24, I S41.nn, Value.slice (some ⟨L0.opnd, 0, none⟩) 41 41, I S41.nv, Value.slice (some ⟨L0.ops, 0, none⟩) 41 41, I S41.no, Value.bool S41.have_, Value.bool S41.done, I S41.err, I S41.bad, Value.slice (some ⟨L0.notes, 0, none⟩) 24 24, Value.slice (some ⟨L0.out, 0, none⟩) 288 288, I S41.w]) hO eH239 rfl
        refine ⟨(hO.blk (.tail _ (.head _))).wr (Nat.le_of_ble_eq_true rfl), ?_⟩
        intro H240 eH240
        replace hO := os1 (l' := [Value.slice (some ⟨L0.toks, 0, none⟩) 41 41, I (0 : Int), I S41.k, I S41.pos, Value.slice (some ⟨L0.arena, 0, none⟩) 24 24, I (0 : Int), Value.slice (some ⟨L0.opnd, 0, none⟩) 41 41, I S41.nv, Value.slice (some ⟨L0.ops, 0, none⟩) 41 41, I S41.no, Value.bool S41.have_, Value.bool S41.done, I S41.err, I S41.bad, Value.slice (some ⟨L0.notes, 0, none⟩) 24 24, Value.slice (some ⟨L0.out, 0, none⟩) 288 288, I S41.w]) hO eH240 rfl
        refine ⟨(hO.blk (.tail _ (.head _))).wr (Nat.le_of_ble_eq_true rfl), ?_⟩
        intro H241 eH241
        replace hO := os1 (l' := [Value.slice (some ⟨L0.toks, 0, none⟩) 41 41, I (0 : Int), I S41.k, I S41.pos, Value.slice (some ⟨L0.arena, 0, none⟩) 24 24, I (0 : Int), Value.slice (some ⟨L0.opnd, 0, none⟩) 41 41, I (0 : Int), Value.slice (some ⟨L0.ops, 0, none⟩) 41 41, I S41.no, Value.bool S41.have_, Value.bool S41.done, I S41.err, I S41.bad, Value.slice (some ⟨L0.notes, 0, none⟩) 24 24, Value.slice (some ⟨L0.out, 0, none⟩) 288 288, I S41.w]) hO eH241 rfl
        refine ⟨(hO.blk (.tail _ (.head _))).wr (Nat.le_of_ble_eq_true rfl), ?_⟩
        intro H242 eH242
        replace hO := os1 (l' := [Value.slice (some ⟨L0.toks, 0, none⟩) 41 41, I (0 : Int), I S41.k, I S41.pos, Value.slice (some ⟨L0.arena, 0, none⟩) 24 24, I (0 : Int), Value.slice (some ⟨L0.opnd, 0, none⟩) 41 41, I (0 : Int), Value.slice (some ⟨L0.ops, 0, none⟩) 41 41, I (0 : Int), Value.bool S41.have_, Value.bool S41.done, I S41.err, I S41.bad, Value.slice (some ⟨L0.notes, 0, none⟩) 24 24, Value.slice (some ⟨L0.out, 0, none⟩) 288 288, I S41.w]) hO eH242 rfl
        refine ⟨(⟨none, 0, 0, (-1 : Int), S41.err, S41.bad⟩ : TreeT), (hO.blk (.head _)).rowT rfl, ?_⟩
        refine ⟨(hO.blk (.tail _ (.tail _ (.tail _ (.tail _ (.tail _ (.tail _ (.tail _ (.tail _ (.head _)))))))))).wr (Nat.le_of_ble_eq_true rfl), ?_⟩
        intro H243 eH243
        replace hO := oz8 (l' := [Value.slice none 0 0, I (-1 : Int), I S41.err, I S41.bad]) hO eH243 rfl
        refine ⟨(⟨none, 0, 0, (-1 : Int), S41.err, S41.bad⟩ : TreeT), (hO.blk (.tail _ (.tail _ (.tail _ (.tail _ (.tail _ (.tail _ (.tail _ (.tail _ (.head _)))))))))).rowT rfl, ?_⟩
        replace hO := close_F L0 ({ S41 with nt := (0 : Int), nn := (0 : Int), nv := (0 : Int), no := (0 : Int) }) (pu7 (pu7 (pu7 (pu7 (pu7 (pu7 (pu7 hO)))))))
        replace hO := own_nil hO
        obtain rfl := Option.some.inj h
        exact hR _ none 0 [] shNil (dr2 (dr2 (pu1 (pu0 hO))))





end Go.Proofs.Qxb6500272aGreat
