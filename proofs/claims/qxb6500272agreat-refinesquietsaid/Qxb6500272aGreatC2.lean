import Derived.Test.Qxb6500272aGreatC1
/- The contracts. Printed by tools/mkall.py. -/
namespace Go.Proofs.Qxb6500272aGreat
open Go
set_option linter.unusedVariables false
set_option linter.unusedSimpArgs false
set_option maxHeartbeats 4000000

theorem c196 (z0 : Nat) (L0 : VL) (S0 : VS) (z1 : Int) (z2 : Int) (z3 : ValT) (z4 : BitVec 32) (r_ : VS) (h : s196 S0 z1 z2 z3 z4 = some r_) (F : List Ent) (H : Heap) (R : Value → Heap → Prop)
    (hO : Own H [oV z0 L0 S0] F)
    (hR : ∀ (H' : Heap) , Own H' [oV z0 L0 r_] F → R (.tuple #[]) H') :
    HCalls Tryz.prog 196 #[Value.pointer (some ⟨z0, 0, none⟩), I z1, I z2, Value.agg ⟨encVal z3⟩, Value.int .u32 (z4.toNat : Int)] H R := by
  refine vc196 z0 z1 z2 z3 z4 H R ?_
  unfold s196 at h
  intro H21 eH21
  replace hO := own_new (l := encVal z3) hO eH21 rfl
  replace hO := open_V (pu1 hO)
  refine ⟨S0.start, ((hO.blk (.head _)).rdv rfl), ?_⟩
  obtain ⟨q22, h⟩ := ckS h
  refine ⟨q22, ?_⟩
  refine ⟨(hO.blk (.head _)).wr (Nat.le_of_ble_eq_true rfl), ?_⟩
  intro H23 eH23
  replace hO := os0 (l' := [Value.pointer (some ⟨L0.f, 0, none⟩), Value.slice (some ⟨L0.code, 0, none⟩) 48 48, I (S0.start - (1 : Int)), Value.int .u32 (S0.cells.toNat : Int), Value.slice (some ⟨L0.owner, 0, none⟩) 24 24, Value.slice (some ⟨L0.stack, 0, none⟩) 24 24, I S0.top, Value.slice (some ⟨L0.folds, 0, none⟩) 24 24, I S0.deep]) hO eH23 rfl
  refine ⟨(some ⟨L0.code, 0, none⟩), 48, 48, ((hO.blk (.head _)).rdv rfl), ?_⟩
  refine ⟨(S0.start - (1 : Int)), ((hO.blk (.head _)).rdv rfl), ?_⟩
  refine ⟨z3, (hO.blk (.tail _ (.tail _ (.tail _ (.tail _ (.tail _ (.tail _ (.head _)))))))).rowT rfl, ?_⟩
  obtain ⟨x24, g25, h⟩ := getS h
  refine ⟨_, _, rfl, g25.1, g25.2.1, rfl, ?_⟩
  refine ⟨((hO.arr (.tail _ (.tail _ (.head _)))).wr1 lenInstr (i := Int.toNat (S0.start - (1 : Int))) (j := 0) (getLt g25.2.2) (Nat.le_of_ble_eq_true rfl) (zo0 _)), ?_⟩
  intro H26 eH26
  replace hO := oz2 (l' := List.flatMap encInstr (List.set S0.code (Int.toNat (S0.start - (1 : Int))) (⟨z1, z2, z3, z4⟩ : InstrT))) hO eH26 (flat_put1 lenInstr (i := Int.toNat (S0.start - (1 : Int))) (x := (⟨z1, z2, z3, z4⟩ : InstrT)) (getLt g25.2.2) (Nat.zero_add _))
  refine ⟨S0.cells, ((hO.blk (.head _)).rdv rfl), ?_⟩
  refine ⟨S0.cells, z4, rfl, rfl, ?_⟩
  refine ⟨(hO.blk (.head _)).wr (Nat.le_of_ble_eq_true rfl), ?_⟩
  intro H27 eH27
  replace hO := os0 (l' := [Value.pointer (some ⟨L0.f, 0, none⟩), Value.slice (some ⟨L0.code, 0, none⟩) 48 48, I (S0.start - (1 : Int)), Value.int .u32 ((S0.cells ||| z4).toNat : Int), Value.slice (some ⟨L0.owner, 0, none⟩) 24 24, Value.slice (some ⟨L0.stack, 0, none⟩) 24 24, I S0.top, Value.slice (some ⟨L0.folds, 0, none⟩) 24 24, I S0.deep]) hO eH27 rfl
  replace hO := close_V L0 ({ S0 with code := (List.set S0.code (Int.toNat (S0.start - (1 : Int))) (⟨z1, z2, z3, z4⟩ : InstrT)), start := S0.start - (1 : Int), cells := (S0.cells ||| z4) }) (hO)
  obtain rfl := Option.some.inj h
  exact hR _ (dr1 (hO))


theorem c116 (z0 : RefT) (r_ : Bool) (h : s116 z0 = r_) (F : List Ent) (H : Heap) (R : Value → Heap → Prop)
    (hO : Own H [] F)
    (hR : ∀ (H' : Heap) , Own H' [] F → R (.bool r_) H') :
    HCalls Tryz.prog 116 #[Value.agg ⟨encRef z0⟩] H R := by
  refine vc116 z0 H R ?_
  unfold s116 at h
  intro H21 eH21
  replace hO := own_new (l := encRef z0) hO eH21 rfl
  refine ⟨z0.col, ((hO.blk (.head _)).rdv rfl), ?_⟩
  refine ⟨fun w22 => ?_, fun w23 => ?_⟩
  · replace h := ifTd w22 h
    refine ⟨z0.col, ((hO.blk (.head _)).rdv rfl), ?_⟩
    refine ⟨fun w24 => ?_, fun w25 => ?_⟩
    · replace h := ifTd w24 h
      refine ⟨z0.row, ((hO.blk (.head _)).rdv rfl), ?_⟩
      refine ⟨fun w26 => ?_, fun w27 => ?_⟩
      · replace h := ifTd w26 h
        refine ⟨z0.row, ((hO.blk (.head _)).rdv rfl), ?_⟩
        subst h
        exact hR _ (dr0 (hO))

      · replace h := ifFd w27 h
        subst h
        exact hR _ (dr0 (hO))


    · replace h := ifFd w25 h
      subst h
      exact hR _ (dr0 (hO))


  · replace h := ifFd w23 h
    subst h
    exact hR _ (dr0 (hO))



theorem c217 (z0 : RefT) (r_ : Int) (h : s217 z0 = some r_) (F : List Ent) (H : Heap) (R : Value → Heap → Prop)
    (hO : Own H [] F)
    (hR : ∀ (H' : Heap) , Own H' [] F → R (I r_) H') :
    HCalls Tryz.prog 217 #[Value.agg ⟨encRef z0⟩] H R := by
  refine vc217 z0 H R ?_
  unfold s217 at h
  intro H21 eH21
  replace hO := own_new (l := encRef z0) hO eH21 rfl
  refine ⟨z0.row, ((hO.blk (.head _)).rdv rfl), ?_⟩
  obtain ⟨q22, h⟩ := ckS h
  refine ⟨q22, ?_⟩
  refine ⟨z0.col, ((hO.blk (.head _)).rdv rfl), ?_⟩
  obtain ⟨q23, h⟩ := ckS h
  refine ⟨_, .inl ⟨q23, rfl⟩, ?_⟩
  obtain rfl := Option.some.inj h
  exact hR _ (dr0 (hO))


theorem c197 (z0 : Nat) (L0 : VL) (S0 : VS) (z1 : RefT) (r_ : VS) (h : s197 S0 z1 = some r_) (F : List Ent) (H : Heap) (R : Value → Heap → Prop)
    (hO : Own H [oV z0 L0 S0] F)
    (hR : ∀ (H' : Heap) , Own H' [oV z0 L0 r_] F → R (.tuple #[]) H') :
    HCalls Tryz.prog 197 #[Value.pointer (some ⟨z0, 0, none⟩), Value.agg ⟨encRef z1⟩] H R := by
  refine vc197 z0 z1 H R ?_
  unfold s197 at h
  intro H21 eH21
  replace hO := own_new (l := encRef z1) hO eH21 rfl
  refine ⟨z1, (hO.blk (.head _)).rowT rfl, ?_⟩
  refine c116 z1 _ rfl _ _ _ (fr0 hO) (fun H22 hO => ?_)
  replace hO := un0 hO
  refine ⟨(s116 z1), rfl, ?_⟩
  refine ⟨fun w23 => ?_, fun w24 => ?_⟩
  · replace w23 := bnotT w23
    replace h := ifFb w23 h
    obtain ⟨r25, e26, h⟩ := bindS h
    refine c196 z0 L0 S0 (1 : Int) (0 : Int) (⟨(4 : Int), (2 : Int), ([] : List UInt8)⟩ : ValT) (0 : BitVec 32) r25 e26 _ _ _ (fr1 (pu1 hO)) (fun H27 hO => ?_)
    replace hO := un1 hO
    obtain rfl := Option.some.inj h
    exact hR _ (dr1 (hO))

  · replace w24 := bnotF w24
    replace h := ifTb w24 h
    refine ⟨z1, (hO.blk (.head _)).rowT rfl, ?_⟩
    obtain ⟨r28, e29, h⟩ := bindS h
    refine c217 z1 r28 e29 _ _ _ (fr0 hO) (fun H30 hO => ?_)
    replace hO := un0 hO
    refine ⟨r28, rfl, ?_⟩
    refine c92 r28 _ rfl _ _ _ (fr0 hO) (fun H31 hO => ?_)
    replace hO := un0 hO
    refine ⟨(s92 r28), rfl, ?_⟩
    obtain ⟨r32, e33, h⟩ := bindS h
    refine c196 z0 L0 S0 (2 : Int) r28 (⟨(0 : Int), (0 : Int), ([] : List UInt8)⟩ : ValT) (s92 r28) r32 e33 _ _ _ (fr1 (pu1 hO)) (fun H34 hO => ?_)
    replace hO := un1 hO
    obtain rfl := Option.some.inj h
    exact hR _ (dr1 (hO))



theorem c218 (z0 : Int) (r_ : Bool) (h : s218 z0 = r_) (F : List Ent) (H : Heap) (R : Value → Heap → Prop)
    (hO : Own H [] F)
    (hR : ∀ (H' : Heap) , Own H' [] F → R (.bool r_) H') :
    HCalls Tryz.prog 218 #[I z0] H R := by
  refine vc218 z0 H R ?_
  unfold s218 at h
  refine ⟨fun w21 => ?_, fun w22 => ?_⟩
  · replace w21 := bnotT w21
    replace h := ifFd w21 h
    subst h
    exact hR _ hO

  · replace w22 := bnotF w22
    replace h := ifTd w22 h
    subst h
    exact hR _ hO



theorem c198 (z0 : Nat) (L0 : VL) (S0 : VS) (z1 : Int) (r_ : VS) (h : s198 S0 z1 = some r_) (F : List Ent) (H : Heap) (R : Value → Heap → Prop)
    (hO : Own H [oV z0 L0 S0] F)
    (hR : ∀ (H' : Heap) , Own H' [oV z0 L0 r_] F → R (.tuple #[]) H') :
    HCalls Tryz.prog 198 #[Value.pointer (some ⟨z0, 0, none⟩), I z1] H R := by
  refine vc198 z0 z1 H R ?_
  unfold s198 at h
  refine ⟨fun l Hc => Own Hc [oV z0 L0 S0] F ∧ (k198_0 S0 z1 (asI (nth l 0))) = some r_, ?_, ?_⟩
  · refine ⟨fun w27 => ?_, fun w28 => ?_⟩
    · replace h := ifTd w27 h
      exact ⟨hO, h⟩

    · replace h := ifFd w28 h
      refine c218 z1 _ rfl _ _ _ (fr0 hO) (fun H29 hO => ?_)
      replace hO := un0 hO
      refine ⟨(s218 z1), rfl, ?_⟩
      refine ⟨fun w30 => ?_, fun w31 => ?_⟩
      · replace h := ifTb w30 h
        exact ⟨hO, h⟩

      · replace h := ifFb w31 h
        exact ⟨hO, h⟩



  · clear hO h
    intro H21 u22 x23 hJ
    obtain ⟨hO, h⟩ := hJ
    replace h : (k198_0 S0 z1 x23) = some r_ := h
    unfold k198_0 at h
    obtain ⟨r24, e25, h⟩ := bindS h
    refine c196 z0 L0 S0 x23 z1 (⟨(0 : Int), (0 : Int), ([] : List UInt8)⟩ : ValT) (0 : BitVec 32) r24 e25 _ _ _ (fr1 hO) (fun H26 hO => ?_)
    replace hO := un1 hO
    obtain rfl := Option.some.inj h
    exact hR _ hO



theorem c149 (n_ : Nat) (z0 : RefT) (z1 : RefT) (r_ : BitVec 32 × Bool) (h : s149 n_ z0 z1 = some r_) (F : List Ent) (H : Heap) (R : Value → Heap → Prop)
    (hO : Own H [] F)
    (hR : ∀ (H' : Heap) , Own H' [] F → R (.tuple #[.int .u32 (r_.1.toNat : Int), .bool r_.2]) H') :
    HCalls Tryz.prog 149 #[Value.agg ⟨encRef z0⟩, Value.agg ⟨encRef z1⟩] H R := by
  refine vc149 z0 z1 H R ?_
  unfold s149 at h
  intro H21 eH21
  replace hO := own_new (l := encRef z0) hO eH21 rfl
  intro H22 eH22
  replace hO := own_new (l := encRef z1) hO eH22 rfl
  refine ⟨z0, (hO.blk (.tail _ (.head _))).rowT rfl, ?_⟩
  refine c116 z0 _ rfl _ _ _ (fr0 hO) (fun H23 hO => ?_)
  replace hO := un0 hO
  refine ⟨(s116 z0), rfl, ?_⟩
  refine ⟨fun w24 => ?_, fun w25 => ?_⟩
  · replace w24 := bnotT w24
    replace h := ifFb w24 h
    obtain rfl := Option.some.inj h
    exact hR _ (dr0 (dr0 (hO)))

  · replace w25 := bnotF w25
    replace h := ifTb w25 h
    refine ⟨z1, (hO.blk (.head _)).rowT rfl, ?_⟩
    refine c116 z1 _ rfl _ _ _ (fr0 hO) (fun H26 hO => ?_)
    replace hO := un0 hO
    refine ⟨(s116 z1), rfl, ?_⟩
    refine ⟨fun w27 => ?_, fun w28 => ?_⟩
    · replace w27 := bnotT w27
      replace h := ifFb w27 h
      obtain rfl := Option.some.inj h
      exact hR _ (dr0 (dr0 (hO)))

    · replace w28 := bnotF w28
      replace h := ifTb w28 h
      refine ⟨z0.col, ((hO.blk (.tail _ (.head _))).rdv rfl), ?_⟩
      refine ⟨z1.col, ((hO.blk (.head _)).rdv rfl), ?_⟩
      refine ⟨z0.row, ((hO.blk (.tail _ (.head _))).rdv rfl), ?_⟩
      refine ⟨z1.row, ((hO.blk (.head _)).rdv rfl), ?_⟩
      refine ⟨fun l Hc => Own Hc [] F ∧ (k149_3 n_ z0 z1 (asI (nth l 0)) (asI (nth l 1))) = some r_, ?_, ?_⟩
      · refine ⟨fun w67 => ?_, fun w68 => ?_⟩
        · replace h := ifTd w67 h
          replace hO := dr0 (dr0 (hO))
          exact ⟨hO, h⟩

        · replace h := ifFd w68 h
          replace hO := dr0 (dr0 (hO))
          exact ⟨hO, h⟩


      · clear hO h
        intro H29 u30 x31 x32 hJ
        obtain ⟨hO, h⟩ := hJ
        replace h : (k149_3 n_ z0 z1 x31 x32) = some r_ := h
        unfold k149_3 at h
        refine ⟨fun l Hc => Own Hc [] F ∧ (k149_2 n_ x31 x32 (asI (nth l 0)) (asI (nth l 1))) = some r_, ?_, ?_⟩
        · refine ⟨fun w65 => ?_, fun w66 => ?_⟩
          · replace h := ifTd w65 h
            exact ⟨hO, h⟩

          · replace h := ifFd w66 h
            exact ⟨hO, h⟩


        · clear hO h
          intro H33 u34 x35 x36 hJ
          obtain ⟨hO, h⟩ := hJ
          replace h : (k149_2 n_ x31 x32 x35 x36) = some r_ := h
          unfold k149_2 at h
          refine ⟨fun l Hc => ∃ m : Nat, ∃ s_0 : BitVec 32, nth l 0 = .int .u32 s_0.toNat ∧ Own Hc [] F ∧ (l149_1 n_ x31 x32 x36 m s_0 (asI (nth l 1))) = some r_, fun l Hc => Classical.epsilon <| lsp fun m => ∃ s_0 : BitVec 32, nth l 0 = .int .u32 s_0.toNat ∧ Own Hc [] F ∧ (l149_1 n_ x31 x32 x36 m s_0 (asI (nth l 1))) = some r_, ?_, ?_⟩
          · exact ⟨⟨(0 : BitVec 32), rfl⟩, n_, (0 : BitVec 32), rfl, hO, h⟩
          · clear hO h
            intro H37 u38 x39 x40 hJ
            obtain ⟨m63, hm42, hJ⟩ := lst_get hJ
            obtain ⟨s_0, hu64, hO, h⟩ := hJ
            obtain rfl := injV hu64
            rcases m63 with _ | k62
            · exact absurd h (by simp [l149_1, asI, asB, asC, asS])
            obtain ⟨rec41, hrec41, h⟩ : ∃ f_, f_ = l149_1 n_ x31 x32 x36 k62 ∧ (l149_1_st n_ x31 x32 x36 f_ x39 x40) = some r_ := ⟨_, rfl, h⟩
            unfold l149_1_st at h
            refine ⟨fun w43 => ?_, fun w44 => ?_⟩
            · replace h := ifTd w43 h
              refine ⟨fun l Hc => ∃ m : Nat, ∃ s_0 : BitVec 32, nth l 0 = .int .u32 s_0.toNat ∧ Own Hc [] F ∧ (l149_0 n_ x32 x40 rec41 m s_0 (asI (nth l 1))) = some r_, fun l Hc => Classical.epsilon <| lsp fun m => ∃ s_0 : BitVec 32, nth l 0 = .int .u32 s_0.toNat ∧ Own Hc [] F ∧ (l149_0 n_ x32 x40 rec41 m s_0 (asI (nth l 1))) = some r_, ?_, ?_⟩
              · exact ⟨⟨x39, rfl⟩, n_, x39, rfl, hO, h⟩
              · clear hO h
                intro H45 u46 x47 x48 hJ
                obtain ⟨m60, hm50, hJ⟩ := lst_get hJ
                obtain ⟨s_0, hu61, hO, h⟩ := hJ
                obtain rfl := injV hu61
                rcases m60 with _ | k59
                · exact absurd h (by simp [l149_0, asI, asB, asC, asS])
                obtain ⟨rec49, hrec49, h⟩ : ∃ f_, f_ = l149_0 n_ x32 x40 rec41 k59 ∧ (l149_0_st n_ x32 x40 rec41 f_ x47 x48) = some r_ := ⟨_, rfl, h⟩
                unfold l149_0_st at h
                refine ⟨fun w51 => ?_, fun w52 => ?_⟩
                · replace h := ifTd w51 h
                  obtain ⟨q53, h⟩ := ckS h
                  refine ⟨q53, ?_⟩
                  obtain ⟨q54, h⟩ := ckS h
                  refine ⟨_, .inl ⟨q54, rfl⟩, ?_⟩
                  obtain ⟨q55, h⟩ := ckS h
                  refine ⟨q55, ?_⟩
                  obtain ⟨q56, h⟩ := ckS h
                  refine ⟨(1 : BitVec 32), rfl, q56, ?_⟩
                  refine ⟨x47, ((1 : BitVec 32) <<< Int.toNat ((x40 * (4 : Int)) + x48)), rfl, rfl, ?_⟩
                  obtain ⟨q57, h⟩ := ckS h
                  refine ⟨_, .inl ⟨q57, rfl⟩, ?_⟩
                  subst hrec49
                  refine ⟨⟨⟨(x47 ||| ((1 : BitVec 32) <<< Int.toNat ((x40 * (4 : Int)) + x48))), rfl⟩, ?_⟩, ?_⟩
                  · exact (lst_step hm50 ⟨(x47 ||| ((1 : BitVec 32) <<< Int.toNat ((x40 * (4 : Int)) + x48))), rfl, hO, h⟩).1
                  · exact (lst_step hm50 ⟨(x47 ||| ((1 : BitVec 32) <<< Int.toNat ((x40 * (4 : Int)) + x48))), rfl, hO, h⟩).2

                · replace h := ifFd w52 h
                  obtain ⟨q58, h⟩ := ckS h
                  refine ⟨_, .inl ⟨q58, rfl⟩, ?_⟩
                  subst hrec41
                  refine ⟨⟨⟨x47, rfl⟩, ?_⟩, ?_⟩
                  · exact (lst_step hm42 ⟨x47, rfl, hO, h⟩).1
                  · exact (lst_step hm42 ⟨x47, rfl, hO, h⟩).2



            · replace h := ifFd w44 h
              obtain rfl := Option.some.inj h
              exact hR _ hO








theorem c199 (n_ : Nat) (z0 : Nat) (L0 : VL) (S0 : VS) (b1 : Nat) (a1 : List NodeT) (m1 c1 : Nat) (z2 : Int) (r_ : VS) (h : s199 n_ S0 a1 m1 z2 = some r_) (F : List Ent) (H : Heap) (R : Value → Heap → Prop)
    (hO : Own H [oV z0 L0 S0, cellE 153 b1 (List.flatMap encNode a1)] F)
    (hR : ∀ (H' : Heap) , Own H' [oV z0 L0 r_, cellE 153 b1 (List.flatMap encNode a1)] F → R (.tuple #[]) H') :
    HCalls Tryz.prog 199 #[Value.pointer (some ⟨z0, 0, none⟩), Value.slice (some ⟨b1, 0, none⟩) m1 c1, I z2] H R := by
  refine vc199 z0 (some ⟨b1, 0, none⟩) m1 c1 z2 H R ?_
  unfold s199 at h
  obtain ⟨x21, g22, h⟩ := getS h
  refine ⟨_, _, rfl, g22.1, g22.2.1, rfl, ?_⟩
  refine ⟨x21, (hO.arr (.tail _ (.head _))).row (i := Int.toNat z2) lenNode g22.2.2 (Nat.zero_add _), ?_⟩
  intro H23 eH23
  replace hO := own_new (l := encNode (⟨(0 : Int), (0 : Int), (0 : Int), (0 : Int), (0 : Int), (⟨(0 : Int), (0 : Int), false, false⟩ : RefT), (⟨(0 : Int), (0 : Int), false, false⟩ : RefT)⟩ : NodeT)) hO eH23 rfl
  refine ⟨(hO.blk (.head _)).wr (Nat.le_of_ble_eq_true rfl), ?_⟩
  intro H24 eH24
  replace hO := oz0 (l' := encNode x21) hO eH24 rfl
  replace hO := open_V (pu1 hO)
  refine ⟨(some ⟨L0.owner, 0, none⟩), 24, 24, ((hO.blk (.head _)).rdv rfl), ?_⟩
  obtain ⟨x25, g26, h⟩ := getS h
  refine ⟨_, _, rfl, g26.1, g26.2.1, rfl, ?_⟩
  refine ⟨x25, ((hO.arr (.tail _ (.tail _ (.tail _ (.head _))))).rd (i := Int.toNat z2) (j := 0) lenI g26.2.2 (by decide) (zo0 _) rfl), ?_⟩
  replace hO := close_V L0 S0 (hO)
  refine ⟨fun l Hc => ∃ S61 : VS, Own Hc [oV z0 L0 S61, cellE 153 H.size (encNode x21), cellE 153 b1 (List.flatMap encNode a1)] F ∧ (k199_3 n_ a1 m1 x21 x25 S61) = some r_, ?_, ?_⟩
  · refine ⟨x21.b, ((hO.blk (.tail _ (.head _))).rdv rfl), ?_⟩
    refine ⟨fun w91 => ?_, fun w92 => ?_⟩
    · replace h := ifTd w91 h
      replace hO := open_V (pu0 hO)
      refine ⟨(some ⟨L0.owner, 0, none⟩), 24, 24, ((hO.blk (.head _)).rdv rfl), ?_⟩
      refine ⟨x21.b, ((hO.blk (.tail _ (.tail _ (.tail _ (.tail _ (.tail _ (.tail _ (.head _)))))))).rdv rfl), ?_⟩
      obtain ⟨x93, g94, h⟩ := getS h
      refine ⟨_, _, rfl, g94.1, g94.2.1, rfl, ?_⟩
      refine ⟨((hO.arr (.tail _ (.tail _ (.tail _ (.head _))))).wr1 lenI (i := Int.toNat x21.b) (j := 0) (getLt g94.2.2) (Nat.le_of_ble_eq_true rfl) (zo0 _)), ?_⟩
      intro H95 eH95
      replace hO := os3 (l' := List.flatMap encI (List.set S0.owner (Int.toNat x21.b) x25)) hO eH95 (flat_set1 lenI (i := Int.toNat x21.b) (j := 0) g94.2.2 (by decide) (zo0 _) rfl)
      replace hO := close_V L0 ({ S0 with owner := (List.set S0.owner (Int.toNat x21.b) x25) }) (hO)
      exact ⟨({ S0 with owner := (List.set S0.owner (Int.toNat x21.b) x25) }), hO, h⟩

    · replace h := ifFd w92 h
      exact ⟨S0, hO, h⟩


  · clear hO h
    intro H62 u63  hJ
    obtain ⟨S61, hO, h⟩ := hJ
    replace h : (k199_3 n_ a1 m1 x21 x25 S61) = some r_ := h
    unfold k199_3 at h
    refine c218 x25 _ rfl _ _ _ (fr0 hO) (fun H64 hO => ?_)
    replace hO := un0 hO
    refine ⟨(s218 x25), rfl, ?_⟩
    refine ⟨fun w65 => ?_, fun w66 => ?_⟩
    · replace w65 := bnotT w65
      replace h := ifFb w65 h
      obtain rfl := Option.some.inj h
      exact hR _ (dr2 (pu1 (pu2 hO)))

    · replace w66 := bnotF w66
      replace h := ifTb w66 h
      refine ⟨x21.a, ((hO.blk (.tail _ (.head _))).rdv rfl), ?_⟩
      obtain ⟨x67, g68, h⟩ := getS h
      refine ⟨_, _, rfl, g68.1, g68.2.1, rfl, ?_⟩
      refine ⟨x67, (hO.arr (.tail _ (.tail _ (.head _)))).row (i := Int.toNat x21.a) lenNode g68.2.2 (Nat.zero_add _), ?_⟩
      intro H69 eH69
      replace hO := own_new (l := encNode (⟨(0 : Int), (0 : Int), (0 : Int), (0 : Int), (0 : Int), (⟨(0 : Int), (0 : Int), false, false⟩ : RefT), (⟨(0 : Int), (0 : Int), false, false⟩ : RefT)⟩ : NodeT)) hO eH69 rfl
      refine ⟨(hO.blk (.head _)).wr (Nat.le_of_ble_eq_true rfl), ?_⟩
      intro H70 eH70
      replace hO := oz0 (l' := encNode x67) hO eH70 rfl
      refine ⟨fun l Hc => ∃ s_1 : BitVec 32, nth l 1 = .int .u32 s_1.toNat ∧ Own Hc [oV z0 L0 S61, cellE 153 H.size (encNode x21), cellE 153 b1 (List.flatMap encNode a1)] F ∧ (k199_2 x21 x25 S61 (asI (nth l 0)) s_1) = some r_, ?_, ?_⟩
      · refine ⟨x67.kind, ((hO.blk (.head _)).rdv rfl), ?_⟩
        refine ⟨fun w83 => ?_, fun w84 => ?_⟩
        · replace h := ifTd w83 h
          refine ⟨x67.r1, (hO.blk (.head _)).rowT rfl, ?_⟩
          refine ⟨x67.r2, (hO.blk (.head _)).rowT rfl, ?_⟩
          obtain ⟨r85, e86, h⟩ := bindS h
          refine c149 n_ x67.r1 x67.r2 r85 e86 _ _ _ (fr0 hO) (fun H87 hO => ?_)
          replace hO := un0 hO
          refine ⟨r85.1, r85.2, rfl, ?_⟩
          refine ⟨fun w88 => ?_, fun w89 => ?_⟩
          · replace h := ifTb w88 h
            replace hO := dr3 (pu3 (pu3 (pu3 hO)))
            exact ⟨⟨r85.1, rfl⟩, r85.1, rfl, hO, h⟩

          · replace h := ifFb w89 h
            replace hO := dr3 (pu3 (pu3 (pu3 hO)))
            exact ⟨⟨(0 : BitVec 32), rfl⟩, (0 : BitVec 32), rfl, hO, h⟩


        · replace h := ifFd w84 h
          replace hO := dr3 (pu3 (pu3 (pu3 hO)))
          exact ⟨⟨(0 : BitVec 32), rfl⟩, (0 : BitVec 32), rfl, hO, h⟩


      · clear hO h
        intro H71 u72 x73 x74 hJ
        obtain ⟨s_1, hu90, hO, h⟩ := hJ
        obtain rfl := injV hu90
        replace h : (k199_2 x21 x25 S61 x73 x74) = some r_ := h
        unfold k199_2 at h
        obtain ⟨r75, e76, h⟩ := bindS h
        refine c196 z0 L0 S61 x73 x25 (⟨(0 : Int), (0 : Int), ([] : List UInt8)⟩ : ValT) x74 r75 e76 _ _ _ (fr1 hO) (fun H77 hO => ?_)
        replace hO := un1 hO
        refine ⟨x21.b, ((hO.blk (.tail _ (.head _))).rdv rfl), ?_⟩
        refine ⟨fun w78 => ?_, fun w79 => ?_⟩
        · replace h := ifTd w78 h
          obtain ⟨r80, e81, h⟩ := bindS h
          refine c196 z0 L0 r75 (6 : Int) x25 (⟨(0 : Int), (0 : Int), ([] : List UInt8)⟩ : ValT) (0 : BitVec 32) r80 e81 _ _ _ (fr1 hO) (fun H82 hO => ?_)
          replace hO := un1 hO
          obtain rfl := Option.some.inj h
          exact hR _ (dr2 (pu1 (pu2 hO)))

        · replace h := ifFd w79 h
          obtain rfl := Option.some.inj h
          exact hR _ (dr2 (pu1 (pu2 hO)))






theorem c153 (n_ : Nat) (z0 : Nat) (L0 : VL) (S0 : VS) (b1 : Nat) (a1 : List NodeT) (m1 c1 : Nat) (r_ : VS) (h : s153 n_ S0 a1 m1 = some r_) (F : List Ent) (H : Heap) (R : Value → Heap → Prop)
    (hO : Own H [oV z0 L0 S0, cellE 153 b1 (List.flatMap encNode a1)] F)
    (hR : ∀ (H' : Heap) , Own H' [oV z0 L0 r_, cellE 153 b1 (List.flatMap encNode a1)] F → R (.tuple #[]) H') :
    HCalls Tryz.prog 153 #[Value.pointer (some ⟨z0, 0, none⟩), Value.slice (some ⟨b1, 0, none⟩) m1 c1] H R := by
  refine vc153 z0 (some ⟨b1, 0, none⟩) m1 c1 H R ?_
  unfold s153 at h
  replace hO := open_V (pu0 hO)
  refine ⟨(some ⟨L0.code, 0, none⟩), 48, 48, ((hO.blk (.head _)).rdv rfl), ?_⟩
  refine ⟨(hO.blk (.head _)).wr (Nat.le_of_ble_eq_true rfl), ?_⟩
  intro H21 eH21
  replace hO := os0 (l' := [Value.pointer (some ⟨L0.f, 0, none⟩), Value.slice (some ⟨L0.code, 0, none⟩) 48 48, I (48 : Int), Value.int .u32 (S0.cells.toNat : Int), Value.slice (some ⟨L0.owner, 0, none⟩) 24 24, Value.slice (some ⟨L0.stack, 0, none⟩) 24 24, I S0.top, Value.slice (some ⟨L0.folds, 0, none⟩) 24 24, I S0.deep]) hO eH21 rfl
  refine ⟨(hO.blk (.head _)).wr (Nat.le_of_ble_eq_true rfl), ?_⟩
  intro H22 eH22
  replace hO := os0 (l' := [Value.pointer (some ⟨L0.f, 0, none⟩), Value.slice (some ⟨L0.code, 0, none⟩) 48 48, I (48 : Int), Value.int .u32 (0 : Int), Value.slice (some ⟨L0.owner, 0, none⟩) 24 24, Value.slice (some ⟨L0.stack, 0, none⟩) 24 24, I S0.top, Value.slice (some ⟨L0.folds, 0, none⟩) 24 24, I S0.deep]) hO eH22 rfl
  intro H23 eH23
  replace hO := own_new (l := encVal (⟨(0 : Int), (0 : Int), ([] : List UInt8)⟩ : ValT)) hO eH23 rfl
  refine ⟨(hO.blk (.head _)).wr (Nat.le_of_ble_eq_true rfl), ?_⟩
  intro H24 eH24
  replace hO := oz0 (l' := encVal (⟨(0 : Int), (0 : Int), ([] : List UInt8)⟩ : ValT)) hO eH24 rfl
  obtain ⟨q25, h⟩ := ckS h
  refine ⟨q25, ?_⟩
  replace hO := close_V L0 ({ S0 with start := (48 : Int), cells := (0 : BitVec 32) }) (pu6 (pu6 (pu6 (pu6 (pu6 (pu6 hO))))))
  refine ⟨fun l Hc => ∃ m : Nat, ∃ S49 : VS, Own Hc [oV z0 L0 S49, cellE 94 H22.size (encVal (⟨(0 : Int), (0 : Int), ([] : List UInt8)⟩ : ValT)), cellE 153 b1 (List.flatMap encNode a1)] F ∧ (l153_3 n_ a1 m1 m (asI (nth l 0)) S49) = some r_, fun l Hc => Classical.epsilon <| lsp fun m => ∃ S49 : VS, Own Hc [oV z0 L0 S49, cellE 94 H22.size (encVal (⟨(0 : Int), (0 : Int), ([] : List UInt8)⟩ : ValT)), cellE 153 b1 (List.flatMap encNode a1)] F ∧ (l153_3 n_ a1 m1 m (asI (nth l 0)) S49) = some r_, ?_, ?_⟩
  · exact ⟨n_, ({ S0 with start := (48 : Int), cells := (0 : BitVec 32) }), hO, h⟩
  · clear hO h
    intro H50 u51 x52 hJ
    obtain ⟨m121, hm54, hJ⟩ := lst_get hJ
    obtain ⟨S49, hO, h⟩ := hJ
    rcases m121 with _ | k120
    · exact absurd h (by simp [l153_3, asI, asB, asC, asS])
    obtain ⟨rec53, hrec53, h⟩ : ∃ f_, f_ = l153_3 n_ a1 m1 k120 ∧ (l153_3_st n_ a1 m1 f_ x52 S49) = some r_ := ⟨_, rfl, h⟩
    unfold l153_3_st at h
    refine ⟨fun w55 => ?_, fun w56 => ?_⟩
    · replace h := ifTd w55 h
      refine ⟨fun l Hc => ∃ S69 : VS, Own Hc [oV z0 L0 S69, cellE 94 H22.size (encVal (⟨(0 : Int), (0 : Int), ([] : List UInt8)⟩ : ValT)), cellE 153 b1 (List.flatMap encNode a1)] F ∧ (k153_2 x52 rec53 S69) = some r_, ?_, ?_⟩
      · obtain ⟨x73, g74, h⟩ := getS h
        refine ⟨_, _, rfl, g74.1, g74.2.1, rfl, ?_⟩
        refine ⟨x73, (hO.arr (.tail _ (.tail _ (.head _)))).row (i := Int.toNat x52) lenNode g74.2.2 (Nat.zero_add _), ?_⟩
        intro H75 eH75
        replace hO := own_new (l := encNode (⟨(0 : Int), (0 : Int), (0 : Int), (0 : Int), (0 : Int), (⟨(0 : Int), (0 : Int), false, false⟩ : RefT), (⟨(0 : Int), (0 : Int), false, false⟩ : RefT)⟩ : NodeT)) hO eH75 rfl
        refine ⟨(hO.blk (.head _)).wr (Nat.le_of_ble_eq_true rfl), ?_⟩
        intro H76 eH76
        replace hO := oz0 (l' := encNode x73) hO eH76 rfl
        refine ⟨x73.kind, ((hO.blk (.head _)).rdv rfl), ?_⟩
        refine ⟨fun w77 => ?_, fun w78 => ?_⟩
        · replace h := ifTd w77 h
          refine ⟨x73.n, ((hO.blk (.head _)).rdv rfl), ?_⟩
          obtain ⟨r79, e80, h⟩ := bindS h
          refine c196 z0 L0 S49 (1 : Int) (0 : Int) (⟨(1 : Int), x73.n, ([] : List UInt8)⟩ : ValT) (0 : BitVec 32) r79 e80 _ _ _ (fr1 (pu1 hO)) (fun H81 hO => ?_)
          replace hO := un1 hO
          replace hO := dr3 (pu2 (pu3 (pu3 hO)))
          exact ⟨r79, hO, h⟩

        · replace h := ifFd w78 h
          refine ⟨fun w82 => ?_, fun w83 => ?_⟩
          · replace h := ifTd w82 h
            refine ⟨x73.n, ((hO.blk (.head _)).rdv rfl), ?_⟩
            obtain ⟨r84, e85, h⟩ := bindS h
            refine c196 z0 L0 S49 (1 : Int) (0 : Int) (⟨(3 : Int), x73.n, ([] : List UInt8)⟩ : ValT) (0 : BitVec 32) r84 e85 _ _ _ (fr1 (pu1 hO)) (fun H86 hO => ?_)
            replace hO := un1 hO
            replace hO := dr3 (pu2 (pu3 (pu3 hO)))
            exact ⟨r84, hO, h⟩

          · replace h := ifFd w83 h
            refine ⟨fun w87 => ?_, fun w88 => ?_⟩
            · replace h := ifTd w87 h
              obtain ⟨r89, e90, h⟩ := bindS h
              refine c196 z0 L0 S49 (1 : Int) (0 : Int) (⟨(4 : Int), (2 : Int), ([] : List UInt8)⟩ : ValT) (0 : BitVec 32) r89 e90 _ _ _ (fr1 (pu1 hO)) (fun H91 hO => ?_)
              replace hO := un1 hO
              replace hO := dr3 (pu2 (pu3 (pu3 hO)))
              exact ⟨r89, hO, h⟩

            · replace h := ifFd w88 h
              refine ⟨fun w92 => ?_, fun w93 => ?_⟩
              · replace h := ifTd w92 h
                refine ⟨x73.r1, (hO.blk (.head _)).rowT rfl, ?_⟩
                obtain ⟨r94, e95, h⟩ := bindS h
                refine c197 z0 L0 S49 x73.r1 r94 e95 _ _ _ (fr1 (pu1 hO)) (fun H96 hO => ?_)
                replace hO := un1 hO
                replace hO := dr3 (pu2 (pu3 (pu3 hO)))
                exact ⟨r94, hO, h⟩

              · replace h := ifFd w93 h
                refine ⟨fun w97 => ?_, fun w98 => ?_⟩
                · replace h := ifTd w97 h
                  refine ⟨(⟨(0 : Int), (0 : Int), ([] : List UInt8)⟩ : ValT), (hO.blk (.tail _ (.tail _ (.head _)))).rowT rfl, ?_⟩
                  obtain ⟨r99, e100, h⟩ := bindS h
                  refine c196 z0 L0 S49 (3 : Int) (0 : Int) (⟨(0 : Int), (0 : Int), ([] : List UInt8)⟩ : ValT) (0 : BitVec 32) r99 e100 _ _ _ (fr1 (pu1 hO)) (fun H101 hO => ?_)
                  replace hO := un1 hO
                  replace hO := dr3 (pu2 (pu3 (pu3 hO)))
                  exact ⟨r99, hO, h⟩

                · replace h := ifFd w98 h
                  refine ⟨fun w102 => ?_, fun w103 => ?_⟩
                  · replace h := ifTd w102 h
                    refine ⟨x73.op, ((hO.blk (.head _)).rdv rfl), ?_⟩
                    refine ⟨(⟨(0 : Int), (0 : Int), ([] : List UInt8)⟩ : ValT), (hO.blk (.tail _ (.tail _ (.head _)))).rowT rfl, ?_⟩
                    obtain ⟨r104, e105, h⟩ := bindS h
                    refine c196 z0 L0 S49 (4 : Int) x73.op (⟨(0 : Int), (0 : Int), ([] : List UInt8)⟩ : ValT) (0 : BitVec 32) r104 e105 _ _ _ (fr1 (pu1 hO)) (fun H106 hO => ?_)
                    replace hO := un1 hO
                    replace hO := dr3 (pu2 (pu3 (pu3 hO)))
                    exact ⟨r104, hO, h⟩

                  · replace h := ifFd w103 h
                    refine ⟨fun w107 => ?_, fun w108 => ?_⟩
                    · replace h := ifTd w107 h
                      replace hO := open_V (pu1 hO)
                      refine ⟨(some ⟨L0.owner, 0, none⟩), 24, 24, ((hO.blk (.head _)).rdv rfl), ?_⟩
                      refine ⟨x73.a, ((hO.blk (.tail _ (.tail _ (.tail _ (.tail _ (.tail _ (.tail _ (.head _)))))))).rdv rfl), ?_⟩
                      refine ⟨x73.op, ((hO.blk (.tail _ (.tail _ (.tail _ (.tail _ (.tail _ (.tail _ (.head _)))))))).rdv rfl), ?_⟩
                      obtain ⟨x109, g110, h⟩ := getS h
                      refine ⟨_, _, rfl, g110.1, g110.2.1, rfl, ?_⟩
                      refine ⟨((hO.arr (.tail _ (.tail _ (.tail _ (.head _))))).wr1 lenI (i := Int.toNat x73.a) (j := 0) (getLt g110.2.2) (Nat.le_of_ble_eq_true rfl) (zo0 _)), ?_⟩
                      intro H111 eH111
                      replace hO := os3 (l' := List.flatMap encI (List.set S49.owner (Int.toNat x73.a) x73.op)) hO eH111 (flat_set1 lenI (i := Int.toNat x73.a) (j := 0) g110.2.2 (by decide) (zo0 _) rfl)
                      refine ⟨x73.op, ((hO.blk (.tail _ (.tail _ (.tail _ (.tail _ (.tail _ (.tail _ (.head _)))))))).rdv rfl), ?_⟩
                      replace hO := close_V L0 ({ S49 with owner := (List.set S49.owner (Int.toNat x73.a) x73.op) }) (hO)
                      obtain ⟨r112, e113, h⟩ := bindS h
                      refine c198 z0 L0 ({ S49 with owner := (List.set S49.owner (Int.toNat x73.a) x73.op) }) x73.op r112 e113 _ _ _ (fr1 hO) (fun H114 hO => ?_)
                      replace hO := un1 hO
                      replace hO := dr3 (pu2 (pu3 (pu3 hO)))
                      exact ⟨r112, hO, h⟩

                    · replace h := ifFd w108 h
                      refine ⟨fun w115 => ?_, fun w116 => ?_⟩
                      · replace h := ifTd w115 h
                        obtain ⟨r117, e118, h⟩ := bindS h
                        refine c199 n_ z0 L0 S49 b1 a1 m1 c1 x52 r117 e118 _ _ _ (fr2 (pu2 (pu3 hO))) (fun H119 hO => ?_)
                        replace hO := un2 hO
                        replace hO := dr3 (pu2 (pu3 (pu1 hO)))
                        exact ⟨r117, hO, h⟩

                      · replace h := ifFd w116 h
                        replace hO := dr3 (pu3 (pu3 (pu3 hO)))
                        exact ⟨S49, hO, h⟩









      · clear hO h
        intro H70 u71  hJ
        obtain ⟨S69, hO, h⟩ := hJ
        replace h : (k153_2 x52 rec53 S69) = some r_ := h
        unfold k153_2 at h
        obtain ⟨q72, h⟩ := ckS h
        refine ⟨q72, ?_⟩
        subst hrec53
        exact lst_step hm54 ⟨S69, hO, h⟩


    · replace h := ifFd w56 h
      obtain rfl := Option.some.inj h
      exact hR _ (dr2 (pu1 (pu2 hO)))




theorem c127 (n_ : Nat) (z0 : Nat) (L0 : VL) (S0 : VS) (z1 : List UInt8) (r_ : VS × Bool) (h : s127 n_ S0 z1 = some r_) (F : List Ent) (H : Heap) (R : Value → Heap → Prop)
    (hO : Own H [oV z0 L0 S0] F)
    (hR : ∀ (H' : Heap) , Own H' [oV z0 L0 r_.1] F → R (.bool r_.2) H') :
    HCalls Tryz.prog 127 #[Value.pointer (some ⟨z0, 0, none⟩), str z1] H R := by
  refine vc127 z0 z1 H R ?_
  unfold s127 at h
  replace hO := open_V (pu0 hO)
  refine ⟨L0.f, ((hO.blk (.head _)).rdv rfl), ?_⟩
  obtain ⟨q21, h⟩ := ckS h
  refine ⟨q21.1, q21.2, ?_⟩
  obtain ⟨r22, e23, h⟩ := bindS h
  refine ⟨?_, ?_⟩
  · refine c115 n_ L0.f L0.fl S0.f (List.drop (Int.toNat (1 : Int)) z1) r22 e23 _ _ _ (fr1 (pu1 hO)) (fun H31 a32 k33 C34 hs35 hO => ?_)
    replace hO := un2 hO
    refine ⟨(⟨a32, r22.2.nodes.length, k33, r22.2.root, r22.2.err, r22.2.pos⟩ : TreeT), rfl, ?_⟩
    intro H36 eH36
    replace hO := own_new (l := [Value.slice none 0 0, I (0 : Int), I (0 : Int), I (0 : Int)]) hO eH36 rfl
    refine ⟨(hO.blk (.head _)).wr (Nat.le_of_ble_eq_true rfl), ?_⟩
    intro H37 eH37
    replace hO := oz0 (l' := [Value.slice a32 r22.2.nodes.length k33, I r22.2.root, I r22.2.err, I r22.2.pos]) hO eH37 rfl
    refine ⟨r22.2.err, ((hO.blk (.head _)).rdv rfl), ?_⟩
    refine ⟨fun w38 => ?_, fun w39 => ?_⟩
    · replace w38 := bnotT w38
      replace h := ifFd w38 h
      replace hO := close_V L0 ({ S0 with f := r22.1 }) (pu7 (pu5 (pu7 (pu7 (pu7 (pu7 hO))))))
      obtain rfl := Option.some.inj h
      exact hR _ (dr1 (dr1 (hO)))

    · replace w39 := bnotF w39
      replace h := ifTd w39 h
      refine ⟨a32, r22.2.nodes.length, k33, ((hO.blk (.head _)).rdv rfl), ?_⟩
      obtain ⟨q40, h⟩ := ckS h
      obtain ⟨b41, ha_, hC_⟩ := hs35.2 q40
      subst ha_ hC_
      replace hO := close_V L0 ({ S0 with f := r22.1 }) (pu7 (pu5 (pu7 (pu7 (pu7 (pu7 hO))))))
      obtain ⟨r43, e44, h⟩ := bindS h
      refine c153 n_ z0 L0 ({ S0 with f := r22.1 }) b41 r22.2.nodes r22.2.nodes.length k33 r43 e44 _ _ _ (fr2 (pu1 (pu2 hO))) (fun H45 hO => ?_)
      replace hO := un2 hO
      obtain rfl := Option.some.inj h
      exact hR _ (dr1 (dr1 (hO)))


  · intro H46 eH46
    replace hO := own_new (l := [Value.slice none 0 0, I (0 : Int), I (0 : Int), I (0 : Int)]) hO eH46 rfl
    refine c115 n_ L0.f L0.fl S0.f (List.drop (Int.toNat (1 : Int)) z1) r22 e23 _ _ _ (fr1 (pu2 hO)) (fun H47 a48 k49 C50 hs51 hO => ?_)
    replace hO := un2 hO
    refine ⟨(⟨a48, r22.2.nodes.length, k49, r22.2.root, r22.2.err, r22.2.pos⟩ : TreeT), rfl, ?_⟩
    refine ⟨(hO.blk (.tail _ (.tail _ (.head _)))).wr (Nat.le_of_ble_eq_true rfl), ?_⟩
    intro H52 eH52
    replace hO := oz2 (l' := [Value.slice a48 r22.2.nodes.length k49, I r22.2.root, I r22.2.err, I r22.2.pos]) hO eH52 rfl
    refine ⟨r22.2.err, ((hO.blk (.tail _ (.tail _ (.head _)))).rdv rfl), ?_⟩
    refine ⟨fun w53 => ?_, fun w54 => ?_⟩
    · replace w53 := bnotT w53
      replace h := ifFd w53 h
      replace hO := close_V L0 ({ S0 with f := r22.1 }) (pu7 (pu4 (pu7 (pu7 (pu7 (pu7 hO))))))
      obtain rfl := Option.some.inj h
      exact hR _ (dr1 (dr1 (hO)))

    · replace w54 := bnotF w54
      replace h := ifTd w54 h
      refine ⟨a48, r22.2.nodes.length, k49, ((hO.blk (.tail _ (.tail _ (.head _)))).rdv rfl), ?_⟩
      obtain ⟨q55, h⟩ := ckS h
      obtain ⟨b56, ha_, hC_⟩ := hs51.2 q55
      subst ha_ hC_
      replace hO := close_V L0 ({ S0 with f := r22.1 }) (pu7 (pu4 (pu7 (pu7 (pu7 (pu7 hO))))))
      obtain ⟨r58, e59, h⟩ := bindS h
      refine c153 n_ z0 L0 ({ S0 with f := r22.1 }) b56 r22.2.nodes r22.2.nodes.length k49 r58 e59 _ _ _ (fr2 hO) (fun H60 hO => ?_)
      replace hO := un2 hO
      obtain rfl := Option.some.inj h
      exact hR _ (dr1 (dr1 (hO)))




theorem c107 (n_ : Nat) (z0 : Nat) (L0 : VL) (S0 : VS) (z1 : List UInt8) (r_ : VS × BitVec 32 × Int) (h : s107 n_ S0 z1 = some r_) (F : List Ent) (H : Heap) (R : Value → Heap → Prop)
    (hO : Own H [oV z0 L0 S0] F)
    (hR : ∀ (H' : Heap) , Own H' [oV z0 L0 r_.1] F → R (.tuple #[.int .u32 (r_.2.1.toNat : Int), I r_.2.2]) H') :
    HCalls Tryz.prog 107 #[Value.pointer (some ⟨z0, 0, none⟩), str z1] H R := by
  refine vc107 z0 z1 H R ?_
  unfold s107 at h
  refine ⟨fun w21 => ?_, fun w22 => ?_⟩
  · replace h := ifTd w21 h
    obtain rfl := Option.some.inj h
    exact hR _ hO

  · replace h := ifFd w22 h
    refine ⟨fun w24 => ?_, fun w23 => ?_⟩
    · replace h := ifFb w24 h
      obtain ⟨q25, h⟩ := ckS h
      refine ⟨q25.1, q25.2, ?_⟩
      refine ⟨fun w26 => ?_, fun w27 => ?_⟩
      · replace w26 := bnotT w26
        replace h := ifFd w26 h
        obtain rfl := Option.some.inj h
        exact hR _ hO

      · replace w27 := bnotF w27
        replace h := ifTd w27 h
        obtain ⟨r28, e29, h⟩ := bindS h
        refine c127 n_ z0 L0 S0 z1 r28 e29 _ _ _ (fr1 hO) (fun H30 hO => ?_)
        replace hO := un1 hO
        refine ⟨r28.2, rfl, ?_⟩
        refine ⟨fun w31 => ?_, fun w32 => ?_⟩
        · replace w31 := bnotT w31
          replace h := ifFb w31 h
          obtain rfl := Option.some.inj h
          exact hR _ hO

        · replace w32 := bnotF w32
          replace h := ifTb w32 h
          replace hO := open_V (pu0 hO)
          refine ⟨(some ⟨L0.code, 0, none⟩), 48, 48, ((hO.blk (.head _)).rdv rfl), ?_⟩
          refine ⟨(hO.blk (.head _)).wr (Nat.le_of_ble_eq_true rfl), ?_⟩
          intro H33 eH33
          replace hO := os0 (l' := [Value.pointer (some ⟨L0.f, 0, none⟩), Value.slice (some ⟨L0.code, 0, none⟩) 48 48, I (48 : Int), Value.int .u32 (r28.1.cells.toNat : Int), Value.slice (some ⟨L0.owner, 0, none⟩) 24 24, Value.slice (some ⟨L0.stack, 0, none⟩) 24 24, I r28.1.top, Value.slice (some ⟨L0.folds, 0, none⟩) 24 24, I r28.1.deep]) hO eH33 rfl
          refine ⟨r28.1.cells, ((hO.blk (.head _)).rdv rfl), ?_⟩
          replace hO := close_V L0 ({ r28.1 with start := (48 : Int) }) (hO)
          obtain rfl := Option.some.inj h
          exact hR _ hO



    · replace h := ifTb w23 h
      obtain rfl := Option.some.inj h
      exact hR _ hO




theorem c128 (z0 : Int) (r_ : BitVec 32) (h : s128 z0 = some r_) (F : List Ent) (H : Heap) (R : Value → Heap → Prop)
    (hO : Own H [] F)
    (hR : ∀ (H' : Heap) , Own H' [] F → R (.int .u32 (r_.toNat : Int)) H') :
    HCalls Tryz.prog 128 #[I z0] H R := by
  refine vc128 z0 H R ?_
  unfold s128 at h
  obtain ⟨q21, h⟩ := ckS h
  refine ⟨q21, ?_⟩
  obtain ⟨q22, h⟩ := ckS h
  refine ⟨(1 : BitVec 32), rfl, q22, ?_⟩
  obtain rfl := Option.some.inj h
  exact hR _ hO


theorem c129 (z0 : BitVec 32) (r_ : Int) (h : s129 z0 = some r_) (F : List Ent) (H : Heap) (R : Value → Heap → Prop)
    (hO : Own H [] F)
    (hR : ∀ (H' : Heap) , Own H' [] F → R (I r_) H') :
    HCalls Tryz.prog 129 #[Value.int .u32 (z0.toNat : Int)] H R := by
  refine vc129 z0 H R ?_
  unfold s129 at h
  refine ⟨fun l Hc => ∃ s_0 : BitVec 32, nth l 0 = .int .u32 s_0.toNat ∧ Own Hc [] F ∧ (k129_3 s_0 (asI (nth l 1))) = some r_, ?_, ?_⟩
  · refine ⟨z0, (65535 : BitVec 32), rfl, rfl, ?_⟩
    refine ⟨fun w52 => ?_, fun w53 => ?_⟩
    · replace h := ifTd w52 h
      refine ⟨z0, rfl, (by decide), ?_⟩
      exact ⟨⟨(z0 >>> Int.toNat (16 : Int)), rfl⟩, (z0 >>> Int.toNat (16 : Int)), rfl, hO, h⟩

    · replace h := ifFd w53 h
      exact ⟨⟨z0, rfl⟩, z0, rfl, hO, h⟩


  · clear hO h
    intro H21 u22 x23 x24 hJ
    obtain ⟨s_0, hu54, hO, h⟩ := hJ
    obtain rfl := injV hu54
    replace h : (k129_3 x23 x24) = some r_ := h
    unfold k129_3 at h
    refine ⟨fun l Hc => ∃ s_0 : BitVec 32, nth l 0 = .int .u32 s_0.toNat ∧ Own Hc [] F ∧ (k129_2 s_0 (asI (nth l 1))) = some r_, ?_, ?_⟩
    · refine ⟨x23, (255 : BitVec 32), rfl, rfl, ?_⟩
      refine ⟨fun w48 => ?_, fun w49 => ?_⟩
      · replace h := ifTd w48 h
        obtain ⟨q50, h⟩ := ckS h
        refine ⟨_, .inl ⟨q50, rfl⟩, ?_⟩
        refine ⟨x23, rfl, (by decide), ?_⟩
        exact ⟨⟨(x23 >>> Int.toNat (8 : Int)), rfl⟩, (x23 >>> Int.toNat (8 : Int)), rfl, hO, h⟩

      · replace h := ifFd w49 h
        exact ⟨⟨x23, rfl⟩, x23, rfl, hO, h⟩


    · clear hO h
      intro H25 u26 x27 x28 hJ
      obtain ⟨s_0, hu51, hO, h⟩ := hJ
      obtain rfl := injV hu51
      replace h : (k129_2 x27 x28) = some r_ := h
      unfold k129_2 at h
      refine ⟨fun l Hc => ∃ s_0 : BitVec 32, nth l 0 = .int .u32 s_0.toNat ∧ Own Hc [] F ∧ (k129_1 s_0 (asI (nth l 1))) = some r_, ?_, ?_⟩
      · refine ⟨x27, (15 : BitVec 32), rfl, rfl, ?_⟩
        refine ⟨fun w44 => ?_, fun w45 => ?_⟩
        · replace h := ifTd w44 h
          obtain ⟨q46, h⟩ := ckS h
          refine ⟨_, .inl ⟨q46, rfl⟩, ?_⟩
          refine ⟨x27, rfl, (by decide), ?_⟩
          exact ⟨⟨(x27 >>> Int.toNat (4 : Int)), rfl⟩, (x27 >>> Int.toNat (4 : Int)), rfl, hO, h⟩

        · replace h := ifFd w45 h
          exact ⟨⟨x27, rfl⟩, x27, rfl, hO, h⟩


      · clear hO h
        intro H29 u30 x31 x32 hJ
        obtain ⟨s_0, hu47, hO, h⟩ := hJ
        obtain rfl := injV hu47
        replace h : (k129_1 x31 x32) = some r_ := h
        unfold k129_1 at h
        refine ⟨fun l Hc => ∃ s_0 : BitVec 32, nth l 0 = .int .u32 s_0.toNat ∧ Own Hc [] F ∧ (k129_0 s_0 (asI (nth l 1))) = some r_, ?_, ?_⟩
        · refine ⟨x31, (3 : BitVec 32), rfl, rfl, ?_⟩
          refine ⟨fun w40 => ?_, fun w41 => ?_⟩
          · replace h := ifTd w40 h
            obtain ⟨q42, h⟩ := ckS h
            refine ⟨_, .inl ⟨q42, rfl⟩, ?_⟩
            refine ⟨x31, rfl, (by decide), ?_⟩
            exact ⟨⟨(x31 >>> Int.toNat (2 : Int)), rfl⟩, (x31 >>> Int.toNat (2 : Int)), rfl, hO, h⟩

          · replace h := ifFd w41 h
            exact ⟨⟨x31, rfl⟩, x31, rfl, hO, h⟩


        · clear hO h
          intro H33 u34 x35 x36 hJ
          obtain ⟨s_0, hu43, hO, h⟩ := hJ
          obtain rfl := injV hu43
          replace h : (k129_0 x35 x36) = some r_ := h
          unfold k129_0 at h
          refine ⟨x35, (1 : BitVec 32), rfl, rfl, ?_⟩
          refine ⟨fun w37 => ?_, fun w38 => ?_⟩
          · replace h := ifTd w37 h
            obtain ⟨q39, h⟩ := ckS h
            refine ⟨_, .inl ⟨q39, rfl⟩, ?_⟩
            obtain rfl := Option.some.inj h
            exact hR _ hO

          · replace h := ifFd w38 h
            obtain rfl := Option.some.inj h
            exact hR _ hO







theorem c109 (n_ : Nat) (z0 : Nat) (L0 : GL) (S0 : GS) (z1 : BitVec 32) (r_ : BitVec 32) (h : s109 n_ S0 z1 = some r_) (F : List Ent) (H : Heap) (R : Value → Heap → Prop)
    (hO : Own H [oG z0 L0 S0] F)
    (hR : ∀ (H' : Heap) , Own H' [oG z0 L0 S0] F → R (.int .u32 (r_.toNat : Int)) H') :
    HCalls Tryz.prog 109 #[Value.pointer (some ⟨z0, 0, none⟩), Value.int .u32 (z1.toNat : Int)] H R := by
  refine vc109 z0 z1 H R ?_
  unfold s109 at h
  refine ⟨z1, (16777215 : BitVec 32), rfl, rfl, ?_⟩
  refine ⟨fun l Hc => ∃ m : Nat, ∃ s_0 : BitVec 32, nth l 0 = .int .u32 s_0.toNat ∧ ∃ s_1 : BitVec 32, nth l 1 = .int .u32 s_1.toNat ∧ Own Hc [oG z0 L0 S0] F ∧ (l109_0 n_ S0 m s_0 s_1) = some r_, fun l Hc => Classical.epsilon <| lsp fun m => ∃ s_0 : BitVec 32, nth l 0 = .int .u32 s_0.toNat ∧ ∃ s_1 : BitVec 32, nth l 1 = .int .u32 s_1.toNat ∧ Own Hc [oG z0 L0 S0] F ∧ (l109_0 n_ S0 m s_0 s_1) = some r_, ?_, ?_⟩
  · exact ⟨⟨(z1 &&& (16777215 : BitVec 32)), rfl⟩, ⟨(z1 &&& (16777215 : BitVec 32)), rfl⟩, n_, (z1 &&& (16777215 : BitVec 32)), rfl, (z1 &&& (16777215 : BitVec 32)), rfl, hO, h⟩
  · clear hO h
    intro H21 u22 x23 x24 hJ
    obtain ⟨m35, hm26, hJ⟩ := lst_get hJ
    obtain ⟨s_0, hu36, s_1, hu37, hO, h⟩ := hJ
    obtain rfl := injV hu36
    obtain rfl := injV hu37
    rcases m35 with _ | k34
    · exact absurd h (by simp [l109_0, asI, asB, asC, asS])
    obtain ⟨rec25, hrec25, h⟩ : ∃ f_, f_ = l109_0 n_ S0 k34 ∧ (l109_0_st n_ S0 f_ x23 x24) = some r_ := ⟨_, rfl, h⟩
    unfold l109_0_st at h
    refine ⟨fun w27 => ?_, fun w28 => ?_⟩
    · replace w27 := bnotT w27
      replace h := ifFd w27 h
      obtain ⟨r29, e30, h⟩ := bindS h
      refine c129 x24 r29 e30 _ _ _ (fr0 hO) (fun H31 hO => ?_)
      replace hO := un0 hO
      refine ⟨r29, rfl, ?_⟩
      refine ⟨x24, (1 : BitVec 32), rfl, rfl, ?_⟩
      refine ⟨x24, (x24 - (1 : BitVec 32)), rfl, rfl, ?_⟩
      replace hO := open_G (pu0 hO)
      refine ⟨(some ⟨L0.readBy, 0, none⟩), 24, 24, ((hO.blk (.head _)).rdv rfl), ?_⟩
      obtain ⟨x32, g33, h⟩ := getS h
      refine ⟨_, _, rfl, g33.1, g33.2.1, rfl, ?_⟩
      refine ⟨x32, ((hO.arr (.tail _ (.tail _ (.head _)))).rd (i := Int.toNat r29) (j := 0) lenU g33.2.2 (by decide) (zo0 _) rfl), ?_⟩
      refine ⟨x32, x23, rfl, rfl, ?_⟩
      refine ⟨x23, (x32 &&& ~~~x23), rfl, rfl, ?_⟩
      refine ⟨(x24 &&& (x24 - (1 : BitVec 32))), (x32 &&& ~~~x23), rfl, rfl, ?_⟩
      replace hO := close_G L0 S0 (hO)
      subst hrec25
      refine ⟨⟨⟨(x23 ||| (x32 &&& ~~~x23)), rfl⟩, ⟨((x24 &&& (x24 - (1 : BitVec 32))) ||| (x32 &&& ~~~x23)), rfl⟩, ?_⟩, ?_⟩
      · exact (lst_step hm26 ⟨(x23 ||| (x32 &&& ~~~x23)), rfl, ((x24 &&& (x24 - (1 : BitVec 32))) ||| (x32 &&& ~~~x23)), rfl, hO, h⟩).1
      · exact (lst_step hm26 ⟨(x23 ||| (x32 &&& ~~~x23)), rfl, ((x24 &&& (x24 - (1 : BitVec 32))) ||| (x32 &&& ~~~x23)), rfl, hO, h⟩).2

    · replace w28 := bnotF w28
      replace h := ifTd w28 h
      obtain rfl := Option.some.inj h
      exact hR _ hO




theorem c154 (n_ : Nat) (z0 : Nat) (L0 : GL) (S0 : GS) (z1 : BitVec 32) (r_ : Int) (h : s154 n_ S0 z1 = some r_) (F : List Ent) (H : Heap) (R : Value → Heap → Prop)
    (hO : Own H [oG z0 L0 S0] F)
    (hR : ∀ (H' : Heap) , Own H' [oG z0 L0 S0] F → R (I r_) H') :
    HCalls Tryz.prog 154 #[Value.pointer (some ⟨z0, 0, none⟩), Value.int .u32 (z1.toNat : Int)] H R := by
  refine vc154 z0 z1 H R ?_
  unfold s154 at h
  refine ⟨fun l Hc => ∃ m : Nat, ∃ s_1 : BitVec 32, nth l 1 = .int .u32 s_1.toNat ∧ Own Hc [oG z0 L0 S0] F ∧ (l154_1 n_ S0 m (asI (nth l 0)) s_1) = some r_, fun l Hc => Classical.epsilon <| lsp fun m => ∃ s_1 : BitVec 32, nth l 1 = .int .u32 s_1.toNat ∧ Own Hc [oG z0 L0 S0] F ∧ (l154_1 n_ S0 m (asI (nth l 0)) s_1) = some r_, ?_, ?_⟩
  · exact ⟨⟨z1, rfl⟩, n_, z1, rfl, hO, h⟩
  · clear hO h
    intro H21 u22 x23 x24 hJ
    obtain ⟨m41, hm26, hJ⟩ := lst_get hJ
    obtain ⟨s_1, hu42, hO, h⟩ := hJ
    obtain rfl := injV hu42
    rcases m41 with _ | k40
    · exact absurd h (by simp [l154_1, asI, asB, asC, asS])
    obtain ⟨rec25, hrec25, h⟩ : ∃ f_, f_ = l154_1 n_ S0 k40 ∧ (l154_1_st n_ S0 f_ x23 x24) = some r_ := ⟨_, rfl, h⟩
    unfold l154_1_st at h
    refine ⟨fun w27 => ?_, fun w28 => ?_⟩
    · replace w27 := bnotT w27
      replace h := ifFd w27 h
      refine ⟨fun l Hc => Own Hc [oG z0 L0 S0] F ∧ (k154_0 x24 rec25 (asI (nth l 0))) = some r_, ?_, ?_⟩
      · obtain ⟨r32, e33, h⟩ := bindS h
        refine c129 x24 r32 e33 _ _ _ (fr0 hO) (fun H34 hO => ?_)
        replace hO := un0 hO
        refine ⟨r32, rfl, ?_⟩
        replace hO := open_G (pu0 hO)
        refine ⟨(some ⟨L0.level, 0, none⟩), 24, 24, ((hO.blk (.head _)).rdv rfl), ?_⟩
        obtain ⟨x35, g36, h⟩ := getS h
        refine ⟨_, _, rfl, g36.1, g36.2.1, rfl, ?_⟩
        refine ⟨x35, ((hO.arr (.tail _ (.tail _ (.tail _ (.head _))))).rd (i := Int.toNat r32) (j := 0) lenI g36.2.2 (by decide) (zo0 _) rfl), ?_⟩
        refine ⟨fun w37 => ?_, fun w38 => ?_⟩
        · replace h := ifTd w37 h
          refine ⟨(some ⟨L0.level, 0, none⟩), 24, 24, ((hO.blk (.head _)).rdv rfl), ?_⟩
          refine ⟨_, _, rfl, g36.1, g36.2.1, rfl, ?_⟩
          refine ⟨x35, ((hO.arr (.tail _ (.tail _ (.tail _ (.head _))))).rd (i := Int.toNat r32) (j := 0) lenI g36.2.2 (by decide) (zo0 _) rfl), ?_⟩
          obtain ⟨q39, h⟩ := ckS h
          refine ⟨_, .inl ⟨q39, rfl⟩, ?_⟩
          replace hO := close_G L0 S0 (hO)
          exact ⟨hO, h⟩

        · replace h := ifFd w38 h
          replace hO := close_G L0 S0 (hO)
          exact ⟨hO, h⟩


      · clear hO h
        intro H29 u30 x31 hJ
        obtain ⟨hO, h⟩ := hJ
        replace h : (k154_0 x24 rec25 x31) = some r_ := h
        unfold k154_0 at h
        refine ⟨x24, (1 : BitVec 32), rfl, rfl, ?_⟩
        refine ⟨x24, (x24 - (1 : BitVec 32)), rfl, rfl, ?_⟩
        subst hrec25
        refine ⟨⟨⟨(x24 &&& (x24 - (1 : BitVec 32))), rfl⟩, ?_⟩, ?_⟩
        · exact (lst_step hm26 ⟨(x24 &&& (x24 - (1 : BitVec 32))), rfl, hO, h⟩).1
        · exact (lst_step hm26 ⟨(x24 &&& (x24 - (1 : BitVec 32))), rfl, hO, h⟩).2


    · replace w28 := bnotF w28
      replace h := ifTd w28 h
      obtain rfl := Option.some.inj h
      exact hR _ hO




theorem c130 (n_ : Nat) (z0 : Nat) (L0 : GL) (S0 : GS) (z1 : Int) (r_ : GS) (h : s130 n_ S0 z1 = some r_) (F : List Ent) (H : Heap) (R : Value → Heap → Prop)
    (hO : Own H [oG z0 L0 S0] F)
    (hR : ∀ (H' : Heap) , Own H' [oG z0 L0 r_] F → R (.tuple #[]) H') :
    HCalls Tryz.prog 130 #[Value.pointer (some ⟨z0, 0, none⟩), I z1] H R := by
  refine vc130 z0 z1 H R ?_
  unfold s130 at h
  obtain ⟨r21, e22, h⟩ := bindS h
  refine c128 z1 r21 e22 _ _ _ (fr0 hO) (fun H23 hO => ?_)
  replace hO := un0 hO
  refine ⟨r21, rfl, ?_⟩
  obtain ⟨r24, e25, h⟩ := bindS h
  refine c109 n_ z0 L0 S0 r21 r24 e25 _ _ _ (fr1 hO) (fun H26 hO => ?_)
  replace hO := un1 hO
  refine ⟨r24, rfl, ?_⟩
  replace hO := open_G (pu0 hO)
  refine ⟨S0.cyclic, ((hO.blk (.head _)).rdv rfl), ?_⟩
  refine ⟨S0.cyclic, r24, rfl, rfl, ?_⟩
  replace hO := close_G L0 S0 (hO)
  refine ⟨fun l Hc => ∃ m : Nat, ∃ s_0 : BitVec 32, nth l 0 = .int .u32 s_0.toNat ∧ ∃ s_1 : BitVec 32, nth l 1 = .int .u32 s_1.toNat ∧ ∃ S68 : GS, Own Hc [oG z0 L0 S68] F ∧ (l130_21 n_ S0 r24 m s_0 s_1 S68) = some r_, fun l Hc => Classical.epsilon <| lsp fun m => ∃ s_0 : BitVec 32, nth l 0 = .int .u32 s_0.toNat ∧ ∃ s_1 : BitVec 32, nth l 1 = .int .u32 s_1.toNat ∧ ∃ S68 : GS, Own Hc [oG z0 L0 S68] F ∧ (l130_21 n_ S0 r24 m s_0 s_1 S68) = some r_, ?_, ?_⟩
  · exact ⟨⟨(0 : BitVec 32), rfl⟩, ⟨r24, rfl⟩, n_, (0 : BitVec 32), rfl, r24, rfl, S0, hO, h⟩
  · clear hO h
    intro H69 u70 x71 x72 hJ
    obtain ⟨m571, hm74, hJ⟩ := lst_get hJ
    obtain ⟨s_0, hu572, s_1, hu573, S68, hO, h⟩ := hJ
    obtain rfl := injV hu572
    obtain rfl := injV hu573
    rcases m571 with _ | k570
    · exact absurd h (by simp [l130_21, asI, asB, asC, asS])
    obtain ⟨rec73, hrec73, h⟩ : ∃ f_, f_ = l130_21 n_ S0 r24 k570 ∧ (l130_21_st n_ S0 r24 f_ x71 x72 S68) = some r_ := ⟨_, rfl, h⟩
    unfold l130_21_st at h
    refine ⟨fun w75 => ?_, fun w76 => ?_⟩
    · replace w75 := bnotT w75
      replace h := ifFd w75 h
      refine ⟨fun l Hc => ∃ s_0 : BitVec 32, nth l 0 = .int .u32 s_0.toNat ∧ ∃ S106 : GS, Own Hc [oG z0 L0 S106] F ∧ (k130_2 x72 rec73 s_0 S106) = some r_, ?_, ?_⟩
      · obtain ⟨r110, e111, h⟩ := bindS h
        refine c129 x72 r110 e111 _ _ _ (fr0 hO) (fun H112 hO => ?_)
        replace hO := un0 hO
        refine ⟨r110, rfl, ?_⟩
        replace hO := open_G (pu0 hO)
        refine ⟨S68.touched, ((hO.blk (.head _)).rdv rfl), ?_⟩
        obtain ⟨q113, h⟩ := ckS h
        refine ⟨_, .inl ⟨q113, rfl⟩, ?_⟩
        refine ⟨(hO.blk (.head _)).wr (Nat.le_of_ble_eq_true rfl), ?_⟩
        intro H114 eH114
        replace hO := os0 (l' := [Value.slice (some ⟨L0.reads, 0, none⟩) 24 24, Value.slice (some ⟨L0.readBy, 0, none⟩) 24 24, Value.slice (some ⟨L0.level, 0, none⟩) 24 24, Value.int .u32 (S68.cyclic.toNat : Int), Value.slice (some ⟨L0.need, 0, none⟩) 24 24, I (S68.touched + (1 : Int))]) hO eH114 rfl
        refine ⟨(some ⟨L0.reads, 0, none⟩), 24, 24, ((hO.blk (.head _)).rdv rfl), ?_⟩
        obtain ⟨x115, g116, h⟩ := getS h
        refine ⟨_, _, rfl, g116.1, g116.2.1, rfl, ?_⟩
        refine ⟨x115, ((hO.arr (.tail _ (.head _))).rd (i := Int.toNat r110) (j := 0) lenU g116.2.2 (by decide) (zo0 _) rfl), ?_⟩
        refine ⟨x115, r24, rfl, rfl, ?_⟩
        replace hO := close_G L0 ({ S68 with touched := S68.touched + (1 : Int) }) (hO)
        refine ⟨fun l Hc => ∃ m : Nat, ∃ s_1 : BitVec 32, nth l 1 = .int .u32 s_1.toNat ∧ Own Hc [oG z0 L0 ({ S68 with touched := S68.touched + (1 : Int) })] F ∧ (l130_3 n_ S0 r24 x71 x72 S68 rec73 r110 x115 m (asI (nth l 0)) s_1) = some r_, fun l Hc => Classical.epsilon <| lsp fun m => ∃ s_1 : BitVec 32, nth l 1 = .int .u32 s_1.toNat ∧ Own Hc [oG z0 L0 ({ S68 with touched := S68.touched + (1 : Int) })] F ∧ (l130_3 n_ S0 r24 x71 x72 S68 rec73 r110 x115 m (asI (nth l 0)) s_1) = some r_, ?_, ?_⟩
        · exact ⟨⟨(x115 &&& r24), rfl⟩, n_, (x115 &&& r24), rfl, hO, h⟩
        · clear hO h
          intro H117 u118 x119 x120 hJ
          obtain ⟨m137, hm122, hJ⟩ := lst_get hJ
          obtain ⟨s_1, hu138, hO, h⟩ := hJ
          obtain rfl := injV hu138
          rcases m137 with _ | k136
          · exact absurd h (by simp [l130_3, asI, asB, asC, asS])
          obtain ⟨rec121, hrec121, h⟩ : ∃ f_, f_ = l130_3 n_ S0 r24 x71 x72 S68 rec73 r110 x115 k136 ∧ (l130_3_st n_ S0 r24 x71 x72 S68 rec73 r110 x115 f_ x119 x120) = some r_ := ⟨_, rfl, h⟩
          unfold l130_3_st at h
          refine ⟨fun w123 => ?_, fun w124 => ?_⟩
          · replace w123 := bnotT w123
            replace h := ifFd w123 h
            obtain ⟨q125, h⟩ := ckS h
            refine ⟨_, .inl ⟨q125, rfl⟩, ?_⟩
            refine ⟨x120, (1 : BitVec 32), rfl, rfl, ?_⟩
            refine ⟨x120, (x120 - (1 : BitVec 32)), rfl, rfl, ?_⟩
            subst hrec121
            refine ⟨⟨⟨(x120 &&& (x120 - (1 : BitVec 32))), rfl⟩, ?_⟩, ?_⟩
            · exact (lst_step hm122 ⟨(x120 &&& (x120 - (1 : BitVec 32))), rfl, hO, h⟩).1
            · exact (lst_step hm122 ⟨(x120 &&& (x120 - (1 : BitVec 32))), rfl, hO, h⟩).2

          · replace w124 := bnotF w124
            replace h := ifTd w124 h
            replace hO := open_G (pu0 hO)
            refine ⟨(some ⟨L0.need, 0, none⟩), 24, 24, ((hO.blk (.head _)).rdv rfl), ?_⟩
            obtain ⟨x126, g127, h⟩ := getS h
            refine ⟨_, _, rfl, g127.1, g127.2.1, rfl, ?_⟩
            refine ⟨((hO.arr (.tail _ (.tail _ (.tail _ (.tail _ (.head _)))))).wr1 lenI (i := Int.toNat r110) (j := 0) (getLt g127.2.2) (Nat.le_of_ble_eq_true rfl) (zo0 _)), ?_⟩
            intro H128 eH128
            replace hO := os4 (l' := List.flatMap encI (List.set S68.need (Int.toNat r110) x119)) hO eH128 (flat_set1 lenI (i := Int.toNat r110) (j := 0) g127.2.2 (by decide) (zo0 _) rfl)
            refine ⟨fun w129 => ?_, fun w130 => ?_⟩
            · replace h := ifTd w129 h
              refine ⟨(some ⟨L0.reads, 0, none⟩), 24, 24, ((hO.blk (.head _)).rdv rfl), ?_⟩
              refine ⟨_, _, rfl, g116.1, g116.2.1, rfl, ?_⟩
              refine ⟨x115, ((hO.arr (.tail _ (.head _))).rd (i := Int.toNat r110) (j := 0) lenU g116.2.2 (by decide) (zo0 _) rfl), ?_⟩
              refine ⟨x115, (S0.cyclic &&& ~~~r24), rfl, rfl, ?_⟩
              refine ⟨fun w131 => ?_, fun w132 => ?_⟩
              · replace h := ifTd w131 h
                obtain ⟨r133, e134, h⟩ := bindS h
                refine c128 r110 r133 e134 _ _ _ (fr0 hO) (fun H135 hO => ?_)
                replace hO := un0 hO
                refine ⟨r133, rfl, ?_⟩
                refine ⟨x71, r133, rfl, rfl, ?_⟩
                replace hO := close_G L0 ({ S68 with need := (List.set S68.need (Int.toNat r110) x119), touched := S68.touched + (1 : Int) }) (hO)
                exact ⟨⟨(x71 ||| r133), rfl⟩, (x71 ||| r133), rfl, ({ S68 with need := (List.set S68.need (Int.toNat r110) x119), touched := S68.touched + (1 : Int) }), hO, h⟩

              · replace h := ifFd w132 h
                replace hO := close_G L0 ({ S68 with need := (List.set S68.need (Int.toNat r110) x119), touched := S68.touched + (1 : Int) }) (hO)
                exact ⟨⟨x71, rfl⟩, x71, rfl, ({ S68 with need := (List.set S68.need (Int.toNat r110) x119), touched := S68.touched + (1 : Int) }), hO, h⟩


            · replace h := ifFd w130 h
              replace hO := close_G L0 ({ S68 with need := (List.set S68.need (Int.toNat r110) x119), touched := S68.touched + (1 : Int) }) (hO)
              exact ⟨⟨x71, rfl⟩, x71, rfl, ({ S68 with need := (List.set S68.need (Int.toNat r110) x119), touched := S68.touched + (1 : Int) }), hO, h⟩




      · clear hO h
        intro H107 u108 x109 hJ
        obtain ⟨s_0, hu139, S106, hO, h⟩ := hJ
        obtain rfl := injV hu139
        replace h : (k130_2 x72 rec73 x109 S106) = some r_ := h
        unfold k130_2 at h
        refine ⟨x72, (1 : BitVec 32), rfl, rfl, ?_⟩
        refine ⟨x72, (x72 - (1 : BitVec 32)), rfl, rfl, ?_⟩
        subst hrec73
        refine ⟨⟨⟨x109, rfl⟩, ⟨(x72 &&& (x72 - (1 : BitVec 32))), rfl⟩, ?_⟩, ?_⟩
        · exact (lst_step hm74 ⟨x109, rfl, (x72 &&& (x72 - (1 : BitVec 32))), rfl, S106, hO, h⟩).1
        · exact (lst_step hm74 ⟨x109, rfl, (x72 &&& (x72 - (1 : BitVec 32))), rfl, S106, hO, h⟩).2


    · replace w76 := bnotF w76
      replace h := ifTd w76 h
      refine ⟨fun l Hc => ∃ m : Nat, ∃ s_0 : BitVec 32, nth l 0 = .int .u32 s_0.toNat ∧ ∃ s_1 : BitVec 32, nth l 1 = .int .u32 s_1.toNat ∧ ∃ S246 : GS, Own Hc [oG z0 L0 S246] F ∧ (l130_20 n_ S0 r24 m s_0 s_1 S246) = some r_, fun l Hc => Classical.epsilon <| lsp fun m => ∃ s_0 : BitVec 32, nth l 0 = .int .u32 s_0.toNat ∧ ∃ s_1 : BitVec 32, nth l 1 = .int .u32 s_1.toNat ∧ ∃ S246 : GS, Own Hc [oG z0 L0 S246] F ∧ (l130_20 n_ S0 r24 m s_0 s_1 S246) = some r_, ?_, ?_⟩
      · exact ⟨⟨x71, rfl⟩, ⟨r24, rfl⟩, n_, x71, rfl, r24, rfl, S68, hO, h⟩
      · clear hO h
        intro H247 u248 x249 x250 hJ
        obtain ⟨m567, hm252, hJ⟩ := lst_get hJ
        obtain ⟨s_0, hu568, s_1, hu569, S246, hO, h⟩ := hJ
        obtain rfl := injV hu568
        obtain rfl := injV hu569
        rcases m567 with _ | k566
        · exact absurd h (by simp [l130_20, asI, asB, asC, asS])
        obtain ⟨rec251, hrec251, h⟩ : ∃ f_, f_ = l130_20 n_ S0 r24 k566 ∧ (l130_20_st n_ S0 r24 f_ x249 x250 S246) = some r_ := ⟨_, rfl, h⟩
        unfold l130_20_st at h
        refine ⟨fun w253 => ?_, fun w254 => ?_⟩
        · replace w253 := bnotT w253
          replace h := ifFd w253 h
          obtain ⟨r255, e256, h⟩ := bindS h
          refine c129 x249 r255 e256 _ _ _ (fr0 hO) (fun H257 hO => ?_)
          replace hO := un0 hO
          refine ⟨r255, rfl, ?_⟩
          refine ⟨x249, (1 : BitVec 32), rfl, rfl, ?_⟩
          refine ⟨x249, (x249 - (1 : BitVec 32)), rfl, rfl, ?_⟩
          obtain ⟨r258, e259, h⟩ := bindS h
          refine c128 r255 r258 e259 _ _ _ (fr0 hO) (fun H260 hO => ?_)
          replace hO := un0 hO
          refine ⟨r258, rfl, ?_⟩
          refine ⟨x250, r258, rfl, rfl, ?_⟩
          obtain ⟨x261, g262, h⟩ := getS h
          obtain ⟨r263, e264, h⟩ := bindS h
          obtain ⟨x266, g267, h⟩ := getS h
          refine ⟨?_, ?_⟩
          · replace hO := open_G (pu0 hO)
            refine ⟨(some ⟨L0.level, 0, none⟩), 24, 24, ((hO.blk (.head _)).rdv rfl), ?_⟩
            refine ⟨(some ⟨L0.reads, 0, none⟩), 24, 24, ((hO.blk (.head _)).rdv rfl), ?_⟩
            refine ⟨_, _, rfl, g262.1, g262.2.1, rfl, ?_⟩
            refine ⟨x261, ((hO.arr (.tail _ (.head _))).rd (i := Int.toNat r255) (j := 0) lenU g262.2.2 (by decide) (zo0 _) rfl), ?_⟩
            replace hO := close_G L0 S246 (hO)
            refine c154 n_ z0 L0 S246 x261 r263 e264 _ _ _ (fr1 hO) (fun H269 hO => ?_)
            replace hO := un1 hO
            refine ⟨r263, rfl, ?_⟩
            replace hO := open_G (pu0 hO)
            refine ⟨_, _, rfl, g267.1, g267.2.1, rfl, ?_⟩
            refine ⟨((hO.arr (.tail _ (.tail _ (.tail _ (.head _))))).wr1 lenI (i := Int.toNat r255) (j := 0) (getLt g267.2.2) (Nat.le_of_ble_eq_true rfl) (zo0 _)), ?_⟩
            intro H270 eH270
            replace hO := os3 (l' := List.flatMap encI (List.set S246.level (Int.toNat r255) r263)) hO eH270 (flat_set1 lenI (i := Int.toNat r255) (j := 0) g267.2.2 (by decide) (zo0 _) rfl)
            refine ⟨(some ⟨L0.readBy, 0, none⟩), 24, 24, ((hO.blk (.head _)).rdv rfl), ?_⟩
            obtain ⟨x271, g272, h⟩ := getS h
            refine ⟨_, _, rfl, g272.1, g272.2.1, rfl, ?_⟩
            refine ⟨x271, ((hO.arr (.tail _ (.tail _ (.head _)))).rd (i := Int.toNat r255) (j := 0) lenU g272.2.2 (by decide) (zo0 _) rfl), ?_⟩
            refine ⟨x271, r24, rfl, rfl, ?_⟩
            replace hO := close_G L0 ({ S246 with level := (List.set S246.level (Int.toNat r255) r263) }) (hO)
            refine ⟨fun l Hc => ∃ m : Nat, ∃ s_0 : BitVec 32, nth l 0 = .int .u32 s_0.toNat ∧ ∃ s_1 : BitVec 32, nth l 1 = .int .u32 s_1.toNat ∧ ∃ S304 : GS, Own Hc [oG z0 L0 S304] F ∧ (l130_10 n_ S0 r24 x250 rec251 r258 m s_0 s_1 S304) = some r_, fun l Hc => Classical.epsilon <| lsp fun m => ∃ s_0 : BitVec 32, nth l 0 = .int .u32 s_0.toNat ∧ ∃ s_1 : BitVec 32, nth l 1 = .int .u32 s_1.toNat ∧ ∃ S304 : GS, Own Hc [oG z0 L0 S304] F ∧ (l130_10 n_ S0 r24 x250 rec251 r258 m s_0 s_1 S304) = some r_, ?_, ?_⟩
            · exact ⟨⟨(x249 &&& (x249 - (1 : BitVec 32))), rfl⟩, ⟨(x271 &&& r24), rfl⟩, n_, (x249 &&& (x249 - (1 : BitVec 32))), rfl, (x271 &&& r24), rfl, ({ S246 with level := (List.set S246.level (Int.toNat r255) r263) }), hO, h⟩
            · clear hO h
              intro H305 u306 x307 x308 hJ
              obtain ⟨m354, hm310, hJ⟩ := lst_get hJ
              obtain ⟨s_0, hu355, s_1, hu356, S304, hO, h⟩ := hJ
              obtain rfl := injV hu355
              obtain rfl := injV hu356
              rcases m354 with _ | k353
              · exact absurd h (by simp [l130_10, asI, asB, asC, asS])
              obtain ⟨rec309, hrec309, h⟩ : ∃ f_, f_ = l130_10 n_ S0 r24 x250 rec251 r258 k353 ∧ (l130_10_st n_ S0 r24 x250 rec251 r258 f_ x307 x308 S304) = some r_ := ⟨_, rfl, h⟩
              unfold l130_10_st at h
              refine ⟨fun w311 => ?_, fun w312 => ?_⟩
              · replace w311 := bnotT w311
                replace h := ifFd w311 h
                refine ⟨fun l Hc => ∃ s_0 : BitVec 32, nth l 0 = .int .u32 s_0.toNat ∧ ∃ S332 : GS, Own Hc [oG z0 L0 S332] F ∧ (k130_2 x308 rec309 s_0 S332) = some r_, ?_, ?_⟩
                · obtain ⟨r336, e337, h⟩ := bindS h
                  refine c129 x308 r336 e337 _ _ _ (fr0 hO) (fun H338 hO => ?_)
                  replace hO := un0 hO
                  refine ⟨r336, rfl, ?_⟩
                  replace hO := open_G (pu0 hO)
                  refine ⟨(some ⟨L0.need, 0, none⟩), 24, 24, ((hO.blk (.head _)).rdv rfl), ?_⟩
                  obtain ⟨x339, g340, h⟩ := getS h
                  refine ⟨_, _, rfl, g340.1, g340.2.1, rfl, ?_⟩
                  refine ⟨x339, ((hO.arr (.tail _ (.tail _ (.tail _ (.tail _ (.head _)))))).rd (i := Int.toNat r336) (j := 0) lenI g340.2.2 (by decide) (zo0 _) rfl), ?_⟩
                  obtain ⟨q341, h⟩ := ckS h
                  refine ⟨q341, ?_⟩
                  refine ⟨_, _, rfl, g340.1, g340.2.1, rfl, ?_⟩
                  refine ⟨((hO.arr (.tail _ (.tail _ (.tail _ (.tail _ (.head _)))))).wr1 lenI (i := Int.toNat r336) (j := 0) (getLt g340.2.2) (Nat.le_of_ble_eq_true rfl) (zo0 _)), ?_⟩
                  intro H342 eH342
                  replace hO := os4 (l' := List.flatMap encI (List.set S304.need (Int.toNat r336) (x339 - (1 : Int)))) hO eH342 (flat_set1 lenI (i := Int.toNat r336) (j := 0) g340.2.2 (by decide) (zo0 _) rfl)
                  refine ⟨(some ⟨L0.need, 0, none⟩), 24, 24, ((hO.blk (.head _)).rdv rfl), ?_⟩
                  refine ⟨_, _, rfl, g340.1, g340.2.1, rfl, ?_⟩
                  refine ⟨(x339 - (1 : Int)), ((hO.arr (.tail _ (.tail _ (.tail _ (.tail _ (.head _)))))).rd (i := Int.toNat r336) (j := 0) lenI (setGet (getLt g340.2.2)) (by decide) (zo0 _) rfl), ?_⟩
                  refine ⟨fun w343 => ?_, fun w344 => ?_⟩
                  · replace h := ifTd w343 h
                    refine ⟨(some ⟨L0.reads, 0, none⟩), 24, 24, ((hO.blk (.head _)).rdv rfl), ?_⟩
                    obtain ⟨x345, g346, h⟩ := getS h
                    refine ⟨_, _, rfl, g346.1, g346.2.1, rfl, ?_⟩
                    refine ⟨x345, ((hO.arr (.tail _ (.head _))).rd (i := Int.toNat r336) (j := 0) lenU g346.2.2 (by decide) (zo0 _) rfl), ?_⟩
                    refine ⟨x345, (S0.cyclic &&& ~~~r24), rfl, rfl, ?_⟩
                    refine ⟨fun w347 => ?_, fun w348 => ?_⟩
                    · replace h := ifTd w347 h
                      obtain ⟨r349, e350, h⟩ := bindS h
                      refine c128 r336 r349 e350 _ _ _ (fr0 hO) (fun H351 hO => ?_)
                      replace hO := un0 hO
                      refine ⟨r349, rfl, ?_⟩
                      refine ⟨x307, r349, rfl, rfl, ?_⟩
                      replace hO := close_G L0 ({ S304 with need := (List.set S304.need (Int.toNat r336) (x339 - (1 : Int))) }) (hO)
                      exact ⟨⟨(x307 ||| r349), rfl⟩, (x307 ||| r349), rfl, ({ S304 with need := (List.set S304.need (Int.toNat r336) (x339 - (1 : Int))) }), hO, h⟩

                    · replace h := ifFd w348 h
                      replace hO := close_G L0 ({ S304 with need := (List.set S304.need (Int.toNat r336) (x339 - (1 : Int))) }) (hO)
                      exact ⟨⟨x307, rfl⟩, x307, rfl, ({ S304 with need := (List.set S304.need (Int.toNat r336) (x339 - (1 : Int))) }), hO, h⟩


                  · replace h := ifFd w344 h
                    replace hO := close_G L0 ({ S304 with need := (List.set S304.need (Int.toNat r336) (x339 - (1 : Int))) }) (hO)
                    exact ⟨⟨x307, rfl⟩, x307, rfl, ({ S304 with need := (List.set S304.need (Int.toNat r336) (x339 - (1 : Int))) }), hO, h⟩


                · clear hO h
                  intro H333 u334 x335 hJ
                  obtain ⟨s_0, hu352, S332, hO, h⟩ := hJ
                  obtain rfl := injV hu352
                  replace h : (k130_2 x308 rec309 x335 S332) = some r_ := h
                  unfold k130_2 at h
                  refine ⟨x308, (1 : BitVec 32), rfl, rfl, ?_⟩
                  refine ⟨x308, (x308 - (1 : BitVec 32)), rfl, rfl, ?_⟩
                  subst hrec309
                  refine ⟨⟨⟨x335, rfl⟩, ⟨(x308 &&& (x308 - (1 : BitVec 32))), rfl⟩, ?_⟩, ?_⟩
                  · exact (lst_step hm310 ⟨x335, rfl, (x308 &&& (x308 - (1 : BitVec 32))), rfl, S332, hO, h⟩).1
                  · exact (lst_step hm310 ⟨x335, rfl, (x308 &&& (x308 - (1 : BitVec 32))), rfl, S332, hO, h⟩).2


              · replace w312 := bnotF w312
                replace h := ifTd w312 h
                subst hrec251
                refine ⟨⟨⟨x307, rfl⟩, ⟨(x250 &&& ~~~r258), rfl⟩, ?_⟩, ?_⟩
                · exact (lst_step hm252 ⟨x307, rfl, (x250 &&& ~~~r258), rfl, S304, hO, h⟩).1
                · exact (lst_step hm252 ⟨x307, rfl, (x250 &&& ~~~r258), rfl, S304, hO, h⟩).2



          · replace hO := open_G (pu0 hO)
            refine ⟨(some ⟨L0.reads, 0, none⟩), 24, 24, ((hO.blk (.head _)).rdv rfl), ?_⟩
            refine ⟨_, _, rfl, g262.1, g262.2.1, rfl, ?_⟩
            refine ⟨x261, ((hO.arr (.tail _ (.head _))).rd (i := Int.toNat r255) (j := 0) lenU g262.2.2 (by decide) (zo0 _) rfl), ?_⟩
            refine ⟨?_, ?_⟩
            · refine ⟨(some ⟨L0.level, 0, none⟩), 24, 24, ((hO.blk (.head _)).rdv rfl), ?_⟩
              replace hO := close_G L0 S246 (hO)
              refine c154 n_ z0 L0 S246 x261 r263 e264 _ _ _ (fr1 hO) (fun H359 hO => ?_)
              replace hO := un1 hO
              refine ⟨r263, rfl, ?_⟩
              replace hO := open_G (pu0 hO)
              refine ⟨_, _, rfl, g267.1, g267.2.1, rfl, ?_⟩
              refine ⟨((hO.arr (.tail _ (.tail _ (.tail _ (.head _))))).wr1 lenI (i := Int.toNat r255) (j := 0) (getLt g267.2.2) (Nat.le_of_ble_eq_true rfl) (zo0 _)), ?_⟩
              intro H360 eH360
              replace hO := os3 (l' := List.flatMap encI (List.set S246.level (Int.toNat r255) r263)) hO eH360 (flat_set1 lenI (i := Int.toNat r255) (j := 0) g267.2.2 (by decide) (zo0 _) rfl)
              refine ⟨(some ⟨L0.readBy, 0, none⟩), 24, 24, ((hO.blk (.head _)).rdv rfl), ?_⟩
              obtain ⟨x361, g362, h⟩ := getS h
              refine ⟨_, _, rfl, g362.1, g362.2.1, rfl, ?_⟩
              refine ⟨x361, ((hO.arr (.tail _ (.tail _ (.head _)))).rd (i := Int.toNat r255) (j := 0) lenU g362.2.2 (by decide) (zo0 _) rfl), ?_⟩
              refine ⟨x361, r24, rfl, rfl, ?_⟩
              replace hO := close_G L0 ({ S246 with level := (List.set S246.level (Int.toNat r255) r263) }) (hO)
              refine ⟨fun l Hc => ∃ m : Nat, ∃ s_0 : BitVec 32, nth l 0 = .int .u32 s_0.toNat ∧ ∃ s_1 : BitVec 32, nth l 1 = .int .u32 s_1.toNat ∧ ∃ S394 : GS, Own Hc [oG z0 L0 S394] F ∧ (l130_10 n_ S0 r24 x250 rec251 r258 m s_0 s_1 S394) = some r_, fun l Hc => Classical.epsilon <| lsp fun m => ∃ s_0 : BitVec 32, nth l 0 = .int .u32 s_0.toNat ∧ ∃ s_1 : BitVec 32, nth l 1 = .int .u32 s_1.toNat ∧ ∃ S394 : GS, Own Hc [oG z0 L0 S394] F ∧ (l130_10 n_ S0 r24 x250 rec251 r258 m s_0 s_1 S394) = some r_, ?_, ?_⟩
              · exact ⟨⟨(x249 &&& (x249 - (1 : BitVec 32))), rfl⟩, ⟨(x361 &&& r24), rfl⟩, n_, (x249 &&& (x249 - (1 : BitVec 32))), rfl, (x361 &&& r24), rfl, ({ S246 with level := (List.set S246.level (Int.toNat r255) r263) }), hO, h⟩
              · clear hO h
                intro H395 u396 x397 x398 hJ
                obtain ⟨m444, hm400, hJ⟩ := lst_get hJ
                obtain ⟨s_0, hu445, s_1, hu446, S394, hO, h⟩ := hJ
                obtain rfl := injV hu445
                obtain rfl := injV hu446
                rcases m444 with _ | k443
                · exact absurd h (by simp [l130_10, asI, asB, asC, asS])
                obtain ⟨rec399, hrec399, h⟩ : ∃ f_, f_ = l130_10 n_ S0 r24 x250 rec251 r258 k443 ∧ (l130_10_st n_ S0 r24 x250 rec251 r258 f_ x397 x398 S394) = some r_ := ⟨_, rfl, h⟩
                unfold l130_10_st at h
                refine ⟨fun w401 => ?_, fun w402 => ?_⟩
                · replace w401 := bnotT w401
                  replace h := ifFd w401 h
                  refine ⟨fun l Hc => ∃ s_0 : BitVec 32, nth l 0 = .int .u32 s_0.toNat ∧ ∃ S422 : GS, Own Hc [oG z0 L0 S422] F ∧ (k130_2 x398 rec399 s_0 S422) = some r_, ?_, ?_⟩
                  · obtain ⟨r426, e427, h⟩ := bindS h
                    refine c129 x398 r426 e427 _ _ _ (fr0 hO) (fun H428 hO => ?_)
                    replace hO := un0 hO
                    refine ⟨r426, rfl, ?_⟩
                    replace hO := open_G (pu0 hO)
                    refine ⟨(some ⟨L0.need, 0, none⟩), 24, 24, ((hO.blk (.head _)).rdv rfl), ?_⟩
                    obtain ⟨x429, g430, h⟩ := getS h
                    refine ⟨_, _, rfl, g430.1, g430.2.1, rfl, ?_⟩
                    refine ⟨x429, ((hO.arr (.tail _ (.tail _ (.tail _ (.tail _ (.head _)))))).rd (i := Int.toNat r426) (j := 0) lenI g430.2.2 (by decide) (zo0 _) rfl), ?_⟩
                    obtain ⟨q431, h⟩ := ckS h
                    refine ⟨q431, ?_⟩
                    refine ⟨_, _, rfl, g430.1, g430.2.1, rfl, ?_⟩
                    refine ⟨((hO.arr (.tail _ (.tail _ (.tail _ (.tail _ (.head _)))))).wr1 lenI (i := Int.toNat r426) (j := 0) (getLt g430.2.2) (Nat.le_of_ble_eq_true rfl) (zo0 _)), ?_⟩
                    intro H432 eH432
                    replace hO := os4 (l' := List.flatMap encI (List.set S394.need (Int.toNat r426) (x429 - (1 : Int)))) hO eH432 (flat_set1 lenI (i := Int.toNat r426) (j := 0) g430.2.2 (by decide) (zo0 _) rfl)
                    refine ⟨(some ⟨L0.need, 0, none⟩), 24, 24, ((hO.blk (.head _)).rdv rfl), ?_⟩
                    refine ⟨_, _, rfl, g430.1, g430.2.1, rfl, ?_⟩
                    refine ⟨(x429 - (1 : Int)), ((hO.arr (.tail _ (.tail _ (.tail _ (.tail _ (.head _)))))).rd (i := Int.toNat r426) (j := 0) lenI (setGet (getLt g430.2.2)) (by decide) (zo0 _) rfl), ?_⟩
                    refine ⟨fun w433 => ?_, fun w434 => ?_⟩
                    · replace h := ifTd w433 h
                      refine ⟨(some ⟨L0.reads, 0, none⟩), 24, 24, ((hO.blk (.head _)).rdv rfl), ?_⟩
                      obtain ⟨x435, g436, h⟩ := getS h
                      refine ⟨_, _, rfl, g436.1, g436.2.1, rfl, ?_⟩
                      refine ⟨x435, ((hO.arr (.tail _ (.head _))).rd (i := Int.toNat r426) (j := 0) lenU g436.2.2 (by decide) (zo0 _) rfl), ?_⟩
                      refine ⟨x435, (S0.cyclic &&& ~~~r24), rfl, rfl, ?_⟩
                      refine ⟨fun w437 => ?_, fun w438 => ?_⟩
                      · replace h := ifTd w437 h
                        obtain ⟨r439, e440, h⟩ := bindS h
                        refine c128 r426 r439 e440 _ _ _ (fr0 hO) (fun H441 hO => ?_)
                        replace hO := un0 hO
                        refine ⟨r439, rfl, ?_⟩
                        refine ⟨x397, r439, rfl, rfl, ?_⟩
                        replace hO := close_G L0 ({ S394 with need := (List.set S394.need (Int.toNat r426) (x429 - (1 : Int))) }) (hO)
                        exact ⟨⟨(x397 ||| r439), rfl⟩, (x397 ||| r439), rfl, ({ S394 with need := (List.set S394.need (Int.toNat r426) (x429 - (1 : Int))) }), hO, h⟩

                      · replace h := ifFd w438 h
                        replace hO := close_G L0 ({ S394 with need := (List.set S394.need (Int.toNat r426) (x429 - (1 : Int))) }) (hO)
                        exact ⟨⟨x397, rfl⟩, x397, rfl, ({ S394 with need := (List.set S394.need (Int.toNat r426) (x429 - (1 : Int))) }), hO, h⟩


                    · replace h := ifFd w434 h
                      replace hO := close_G L0 ({ S394 with need := (List.set S394.need (Int.toNat r426) (x429 - (1 : Int))) }) (hO)
                      exact ⟨⟨x397, rfl⟩, x397, rfl, ({ S394 with need := (List.set S394.need (Int.toNat r426) (x429 - (1 : Int))) }), hO, h⟩


                  · clear hO h
                    intro H423 u424 x425 hJ
                    obtain ⟨s_0, hu442, S422, hO, h⟩ := hJ
                    obtain rfl := injV hu442
                    replace h : (k130_2 x398 rec399 x425 S422) = some r_ := h
                    unfold k130_2 at h
                    refine ⟨x398, (1 : BitVec 32), rfl, rfl, ?_⟩
                    refine ⟨x398, (x398 - (1 : BitVec 32)), rfl, rfl, ?_⟩
                    subst hrec399
                    refine ⟨⟨⟨x425, rfl⟩, ⟨(x398 &&& (x398 - (1 : BitVec 32))), rfl⟩, ?_⟩, ?_⟩
                    · exact (lst_step hm400 ⟨x425, rfl, (x398 &&& (x398 - (1 : BitVec 32))), rfl, S422, hO, h⟩).1
                    · exact (lst_step hm400 ⟨x425, rfl, (x398 &&& (x398 - (1 : BitVec 32))), rfl, S422, hO, h⟩).2


                · replace w402 := bnotF w402
                  replace h := ifTd w402 h
                  subst hrec251
                  refine ⟨⟨⟨x397, rfl⟩, ⟨(x250 &&& ~~~r258), rfl⟩, ?_⟩, ?_⟩
                  · exact (lst_step hm252 ⟨x397, rfl, (x250 &&& ~~~r258), rfl, S394, hO, h⟩).1
                  · exact (lst_step hm252 ⟨x397, rfl, (x250 &&& ~~~r258), rfl, S394, hO, h⟩).2



            · replace hO := close_G L0 S246 (hO)
              refine c154 n_ z0 L0 S246 x261 r263 e264 _ _ _ (fr1 hO) (fun H447 hO => ?_)
              replace hO := un1 hO
              refine ⟨r263, rfl, ?_⟩
              replace hO := open_G (pu0 hO)
              refine ⟨(some ⟨L0.level, 0, none⟩), 24, 24, ((hO.blk (.head _)).rdv rfl), ?_⟩
              refine ⟨_, _, rfl, g267.1, g267.2.1, rfl, ?_⟩
              refine ⟨((hO.arr (.tail _ (.tail _ (.tail _ (.head _))))).wr1 lenI (i := Int.toNat r255) (j := 0) (getLt g267.2.2) (Nat.le_of_ble_eq_true rfl) (zo0 _)), ?_⟩
              intro H448 eH448
              replace hO := os3 (l' := List.flatMap encI (List.set S246.level (Int.toNat r255) r263)) hO eH448 (flat_set1 lenI (i := Int.toNat r255) (j := 0) g267.2.2 (by decide) (zo0 _) rfl)
              refine ⟨(some ⟨L0.readBy, 0, none⟩), 24, 24, ((hO.blk (.head _)).rdv rfl), ?_⟩
              obtain ⟨x449, g450, h⟩ := getS h
              refine ⟨_, _, rfl, g450.1, g450.2.1, rfl, ?_⟩
              refine ⟨x449, ((hO.arr (.tail _ (.tail _ (.head _)))).rd (i := Int.toNat r255) (j := 0) lenU g450.2.2 (by decide) (zo0 _) rfl), ?_⟩
              refine ⟨x449, r24, rfl, rfl, ?_⟩
              replace hO := close_G L0 ({ S246 with level := (List.set S246.level (Int.toNat r255) r263) }) (hO)
              refine ⟨fun l Hc => ∃ m : Nat, ∃ s_0 : BitVec 32, nth l 0 = .int .u32 s_0.toNat ∧ ∃ s_1 : BitVec 32, nth l 1 = .int .u32 s_1.toNat ∧ ∃ S482 : GS, Own Hc [oG z0 L0 S482] F ∧ (l130_10 n_ S0 r24 x250 rec251 r258 m s_0 s_1 S482) = some r_, fun l Hc => Classical.epsilon <| lsp fun m => ∃ s_0 : BitVec 32, nth l 0 = .int .u32 s_0.toNat ∧ ∃ s_1 : BitVec 32, nth l 1 = .int .u32 s_1.toNat ∧ ∃ S482 : GS, Own Hc [oG z0 L0 S482] F ∧ (l130_10 n_ S0 r24 x250 rec251 r258 m s_0 s_1 S482) = some r_, ?_, ?_⟩
              · exact ⟨⟨(x249 &&& (x249 - (1 : BitVec 32))), rfl⟩, ⟨(x449 &&& r24), rfl⟩, n_, (x249 &&& (x249 - (1 : BitVec 32))), rfl, (x449 &&& r24), rfl, ({ S246 with level := (List.set S246.level (Int.toNat r255) r263) }), hO, h⟩
              · clear hO h
                intro H483 u484 x485 x486 hJ
                obtain ⟨m532, hm488, hJ⟩ := lst_get hJ
                obtain ⟨s_0, hu533, s_1, hu534, S482, hO, h⟩ := hJ
                obtain rfl := injV hu533
                obtain rfl := injV hu534
                rcases m532 with _ | k531
                · exact absurd h (by simp [l130_10, asI, asB, asC, asS])
                obtain ⟨rec487, hrec487, h⟩ : ∃ f_, f_ = l130_10 n_ S0 r24 x250 rec251 r258 k531 ∧ (l130_10_st n_ S0 r24 x250 rec251 r258 f_ x485 x486 S482) = some r_ := ⟨_, rfl, h⟩
                unfold l130_10_st at h
                refine ⟨fun w489 => ?_, fun w490 => ?_⟩
                · replace w489 := bnotT w489
                  replace h := ifFd w489 h
                  refine ⟨fun l Hc => ∃ s_0 : BitVec 32, nth l 0 = .int .u32 s_0.toNat ∧ ∃ S510 : GS, Own Hc [oG z0 L0 S510] F ∧ (k130_2 x486 rec487 s_0 S510) = some r_, ?_, ?_⟩
                  · obtain ⟨r514, e515, h⟩ := bindS h
                    refine c129 x486 r514 e515 _ _ _ (fr0 hO) (fun H516 hO => ?_)
                    replace hO := un0 hO
                    refine ⟨r514, rfl, ?_⟩
                    replace hO := open_G (pu0 hO)
                    refine ⟨(some ⟨L0.need, 0, none⟩), 24, 24, ((hO.blk (.head _)).rdv rfl), ?_⟩
                    obtain ⟨x517, g518, h⟩ := getS h
                    refine ⟨_, _, rfl, g518.1, g518.2.1, rfl, ?_⟩
                    refine ⟨x517, ((hO.arr (.tail _ (.tail _ (.tail _ (.tail _ (.head _)))))).rd (i := Int.toNat r514) (j := 0) lenI g518.2.2 (by decide) (zo0 _) rfl), ?_⟩
                    obtain ⟨q519, h⟩ := ckS h
                    refine ⟨q519, ?_⟩
                    refine ⟨_, _, rfl, g518.1, g518.2.1, rfl, ?_⟩
                    refine ⟨((hO.arr (.tail _ (.tail _ (.tail _ (.tail _ (.head _)))))).wr1 lenI (i := Int.toNat r514) (j := 0) (getLt g518.2.2) (Nat.le_of_ble_eq_true rfl) (zo0 _)), ?_⟩
                    intro H520 eH520
                    replace hO := os4 (l' := List.flatMap encI (List.set S482.need (Int.toNat r514) (x517 - (1 : Int)))) hO eH520 (flat_set1 lenI (i := Int.toNat r514) (j := 0) g518.2.2 (by decide) (zo0 _) rfl)
                    refine ⟨(some ⟨L0.need, 0, none⟩), 24, 24, ((hO.blk (.head _)).rdv rfl), ?_⟩
                    refine ⟨_, _, rfl, g518.1, g518.2.1, rfl, ?_⟩
                    refine ⟨(x517 - (1 : Int)), ((hO.arr (.tail _ (.tail _ (.tail _ (.tail _ (.head _)))))).rd (i := Int.toNat r514) (j := 0) lenI (setGet (getLt g518.2.2)) (by decide) (zo0 _) rfl), ?_⟩
                    refine ⟨fun w521 => ?_, fun w522 => ?_⟩
                    · replace h := ifTd w521 h
                      refine ⟨(some ⟨L0.reads, 0, none⟩), 24, 24, ((hO.blk (.head _)).rdv rfl), ?_⟩
                      obtain ⟨x523, g524, h⟩ := getS h
                      refine ⟨_, _, rfl, g524.1, g524.2.1, rfl, ?_⟩
                      refine ⟨x523, ((hO.arr (.tail _ (.head _))).rd (i := Int.toNat r514) (j := 0) lenU g524.2.2 (by decide) (zo0 _) rfl), ?_⟩
                      refine ⟨x523, (S0.cyclic &&& ~~~r24), rfl, rfl, ?_⟩
                      refine ⟨fun w525 => ?_, fun w526 => ?_⟩
                      · replace h := ifTd w525 h
                        obtain ⟨r527, e528, h⟩ := bindS h
                        refine c128 r514 r527 e528 _ _ _ (fr0 hO) (fun H529 hO => ?_)
                        replace hO := un0 hO
                        refine ⟨r527, rfl, ?_⟩
                        refine ⟨x485, r527, rfl, rfl, ?_⟩
                        replace hO := close_G L0 ({ S482 with need := (List.set S482.need (Int.toNat r514) (x517 - (1 : Int))) }) (hO)
                        exact ⟨⟨(x485 ||| r527), rfl⟩, (x485 ||| r527), rfl, ({ S482 with need := (List.set S482.need (Int.toNat r514) (x517 - (1 : Int))) }), hO, h⟩

                      · replace h := ifFd w526 h
                        replace hO := close_G L0 ({ S482 with need := (List.set S482.need (Int.toNat r514) (x517 - (1 : Int))) }) (hO)
                        exact ⟨⟨x485, rfl⟩, x485, rfl, ({ S482 with need := (List.set S482.need (Int.toNat r514) (x517 - (1 : Int))) }), hO, h⟩


                    · replace h := ifFd w522 h
                      replace hO := close_G L0 ({ S482 with need := (List.set S482.need (Int.toNat r514) (x517 - (1 : Int))) }) (hO)
                      exact ⟨⟨x485, rfl⟩, x485, rfl, ({ S482 with need := (List.set S482.need (Int.toNat r514) (x517 - (1 : Int))) }), hO, h⟩


                  · clear hO h
                    intro H511 u512 x513 hJ
                    obtain ⟨s_0, hu530, S510, hO, h⟩ := hJ
                    obtain rfl := injV hu530
                    replace h : (k130_2 x486 rec487 x513 S510) = some r_ := h
                    unfold k130_2 at h
                    refine ⟨x486, (1 : BitVec 32), rfl, rfl, ?_⟩
                    refine ⟨x486, (x486 - (1 : BitVec 32)), rfl, rfl, ?_⟩
                    subst hrec487
                    refine ⟨⟨⟨x513, rfl⟩, ⟨(x486 &&& (x486 - (1 : BitVec 32))), rfl⟩, ?_⟩, ?_⟩
                    · exact (lst_step hm488 ⟨x513, rfl, (x486 &&& (x486 - (1 : BitVec 32))), rfl, S510, hO, h⟩).1
                    · exact (lst_step hm488 ⟨x513, rfl, (x486 &&& (x486 - (1 : BitVec 32))), rfl, S510, hO, h⟩).2


                · replace w490 := bnotF w490
                  replace h := ifTd w490 h
                  subst hrec251
                  refine ⟨⟨⟨x485, rfl⟩, ⟨(x250 &&& ~~~r258), rfl⟩, ?_⟩, ?_⟩
                  · exact (lst_step hm252 ⟨x485, rfl, (x250 &&& ~~~r258), rfl, S482, hO, h⟩).1
                  · exact (lst_step hm252 ⟨x485, rfl, (x250 &&& ~~~r258), rfl, S482, hO, h⟩).2





        · replace w254 := bnotF w254
          replace h := ifTd w254 h
          refine ⟨fun l Hc => ∃ m : Nat, ∃ s_0 : BitVec 32, nth l 0 = .int .u32 s_0.toNat ∧ ∃ S548 : GS, Own Hc [oG z0 L0 S548] F ∧ (l130_19 n_ S0 r24 x250 m s_0 S548) = some r_, fun l Hc => Classical.epsilon <| lsp fun m => ∃ s_0 : BitVec 32, nth l 0 = .int .u32 s_0.toNat ∧ ∃ S548 : GS, Own Hc [oG z0 L0 S548] F ∧ (l130_19 n_ S0 r24 x250 m s_0 S548) = some r_, ?_, ?_⟩
          · exact ⟨⟨x250, rfl⟩, n_, x250, rfl, S246, hO, h⟩
          · clear hO h
            intro H549 u550 x551 hJ
            obtain ⟨m564, hm553, hJ⟩ := lst_get hJ
            obtain ⟨s_0, hu565, S548, hO, h⟩ := hJ
            obtain rfl := injV hu565
            rcases m564 with _ | k563
            · exact absurd h (by simp [l130_19, asI, asB, asC, asS])
            obtain ⟨rec552, hrec552, h⟩ : ∃ f_, f_ = l130_19 n_ S0 r24 x250 k563 ∧ (l130_19_st n_ S0 r24 x250 f_ x551 S548) = some r_ := ⟨_, rfl, h⟩
            unfold l130_19_st at h
            refine ⟨fun w554 => ?_, fun w555 => ?_⟩
            · replace w554 := bnotT w554
              replace h := ifFd w554 h
              obtain ⟨r556, e557, h⟩ := bindS h
              refine c129 x551 r556 e557 _ _ _ (fr0 hO) (fun H558 hO => ?_)
              replace hO := un0 hO
              refine ⟨r556, rfl, ?_⟩
              replace hO := open_G (pu0 hO)
              refine ⟨(some ⟨L0.level, 0, none⟩), 24, 24, ((hO.blk (.head _)).rdv rfl), ?_⟩
              obtain ⟨x559, g560, h⟩ := getS h
              refine ⟨_, _, rfl, g560.1, g560.2.1, rfl, ?_⟩
              refine ⟨((hO.arr (.tail _ (.tail _ (.tail _ (.head _))))).wr1 lenI (i := Int.toNat r556) (j := 0) (getLt g560.2.2) (Nat.le_of_ble_eq_true rfl) (zo0 _)), ?_⟩
              intro H561 eH561
              replace hO := os3 (l' := List.flatMap encI (List.set S548.level (Int.toNat r556) (-1 : Int))) hO eH561 (flat_set1 lenI (i := Int.toNat r556) (j := 0) g560.2.2 (by decide) (zo0 _) rfl)
              refine ⟨x551, (1 : BitVec 32), rfl, rfl, ?_⟩
              refine ⟨x551, (x551 - (1 : BitVec 32)), rfl, rfl, ?_⟩
              replace hO := close_G L0 ({ S548 with level := (List.set S548.level (Int.toNat r556) (-1 : Int)) }) (hO)
              subst hrec552
              refine ⟨⟨⟨(x551 &&& (x551 - (1 : BitVec 32))), rfl⟩, ?_⟩, ?_⟩
              · exact (lst_step hm553 ⟨(x551 &&& (x551 - (1 : BitVec 32))), rfl, ({ S548 with level := (List.set S548.level (Int.toNat r556) (-1 : Int)) }), hO, h⟩).1
              · exact (lst_step hm553 ⟨(x551 &&& (x551 - (1 : BitVec 32))), rfl, ({ S548 with level := (List.set S548.level (Int.toNat r556) (-1 : Int)) }), hO, h⟩).2

            · replace w555 := bnotF w555
              replace h := ifTd w555 h
              refine ⟨(S0.cyclic &&& ~~~r24), x250, rfl, rfl, ?_⟩
              replace hO := open_G (pu0 hO)
              refine ⟨(hO.blk (.head _)).wr (Nat.le_of_ble_eq_true rfl), ?_⟩
              intro H562 eH562
              replace hO := os0 (l' := [Value.slice (some ⟨L0.reads, 0, none⟩) 24 24, Value.slice (some ⟨L0.readBy, 0, none⟩) 24 24, Value.slice (some ⟨L0.level, 0, none⟩) 24 24, Value.int .u32 (((S0.cyclic &&& ~~~r24) ||| x250).toNat : Int), Value.slice (some ⟨L0.need, 0, none⟩) 24 24, I S548.touched]) hO eH562 rfl
              replace hO := close_G L0 ({ S548 with cyclic := ((S0.cyclic &&& ~~~r24) ||| x250) }) (hO)
              obtain rfl := Option.some.inj h
              exact hR _ hO








theorem c108 (n_ : Nat) (z0 : Nat) (L0 : GL) (S0 : GS) (z1 : Int) (z2 : BitVec 32) (r_ : GS × Int) (h : s108 n_ S0 z1 z2 = some r_) (F : List Ent) (H : Heap) (R : Value → Heap → Prop)
    (hO : Own H [oG z0 L0 S0] F)
    (hR : ∀ (H' : Heap) , Own H' [oG z0 L0 r_.1] F → R (I r_.2) H') :
    HCalls Tryz.prog 108 #[Value.pointer (some ⟨z0, 0, none⟩), I z1, Value.int .u32 (z2.toNat : Int)] H R := by
  refine vc108 z0 z1 z2 H R ?_
  unfold s108 at h
  replace hO := open_G (pu0 hO)
  refine ⟨(hO.blk (.head _)).wr (Nat.le_of_ble_eq_true rfl), ?_⟩
  intro H21 eH21
  replace hO := os0 (l' := [Value.slice (some ⟨L0.reads, 0, none⟩) 24 24, Value.slice (some ⟨L0.readBy, 0, none⟩) 24 24, Value.slice (some ⟨L0.level, 0, none⟩) 24 24, Value.int .u32 (S0.cyclic.toNat : Int), Value.slice (some ⟨L0.need, 0, none⟩) 24 24, I (0 : Int)]) hO eH21 rfl
  refine ⟨fun w23 => ?_, fun w22 => ?_⟩
  · replace h := ifFd w23 h
    refine ⟨fun w25 => ?_, fun w24 => ?_⟩
    · replace h := ifFd w25 h
      refine ⟨z2, (16777215 : BitVec 32), rfl, rfl, ?_⟩
      refine ⟨fun w26 => ?_, fun w27 => ?_⟩
      · replace w26 := bnotT w26
        replace h := ifFd w26 h
        replace hO := close_G L0 ({ S0 with touched := (0 : Int) }) (hO)
        obtain rfl := Option.some.inj h
        exact hR _ hO

      · replace w27 := bnotF w27
        replace h := ifTd w27 h
        obtain ⟨r28, e29, h⟩ := bindS h
        refine c128 z1 r28 e29 _ _ _ (fr0 hO) (fun H30 hO => ?_)
        replace hO := un0 hO
        refine ⟨r28, rfl, ?_⟩
        refine ⟨(some ⟨L0.reads, 0, none⟩), 24, 24, ((hO.blk (.head _)).rdv rfl), ?_⟩
        obtain ⟨x31, g32, h⟩ := getS h
        refine ⟨_, _, rfl, g32.1, g32.2.1, rfl, ?_⟩
        refine ⟨x31, ((hO.arr (.tail _ (.head _))).rd (i := Int.toNat z1) (j := 0) lenU g32.2.2 (by decide) (zo0 _) rfl), ?_⟩
        refine ⟨x31, z2, rfl, rfl, ?_⟩
        replace hO := close_G L0 ({ S0 with touched := (0 : Int) }) (hO)
        refine ⟨fun l Hc => ∃ m : Nat, ∃ s_0 : BitVec 32, nth l 0 = .int .u32 s_0.toNat ∧ ∃ S46 : GS, Own Hc [oG z0 L0 S46] F ∧ (l108_1 n_ z1 z2 r28 m s_0 S46) = some r_, fun l Hc => Classical.epsilon <| lsp fun m => ∃ s_0 : BitVec 32, nth l 0 = .int .u32 s_0.toNat ∧ ∃ S46 : GS, Own Hc [oG z0 L0 S46] F ∧ (l108_1 n_ z1 z2 r28 m s_0 S46) = some r_, ?_, ?_⟩
        · exact ⟨⟨(x31 &&& ~~~z2), rfl⟩, n_, (x31 &&& ~~~z2), rfl, ({ S0 with touched := (0 : Int) }), hO, h⟩
        · clear hO h
          intro H47 u48 x49 hJ
          obtain ⟨m99, hm51, hJ⟩ := lst_get hJ
          obtain ⟨s_0, hu100, S46, hO, h⟩ := hJ
          obtain rfl := injV hu100
          rcases m99 with _ | k98
          · exact absurd h (by simp [l108_1, asI, asB, asC, asS])
          obtain ⟨rec50, hrec50, h⟩ : ∃ f_, f_ = l108_1 n_ z1 z2 r28 k98 ∧ (l108_1_st n_ z1 z2 r28 f_ x49 S46) = some r_ := ⟨_, rfl, h⟩
          unfold l108_1_st at h
          refine ⟨fun w52 => ?_, fun w53 => ?_⟩
          · replace w52 := bnotT w52
            replace h := ifFd w52 h
            obtain ⟨r54, e55, h⟩ := bindS h
            refine c129 x49 r54 e55 _ _ _ (fr0 hO) (fun H56 hO => ?_)
            replace hO := un0 hO
            refine ⟨r54, rfl, ?_⟩
            replace hO := open_G (pu0 hO)
            refine ⟨(some ⟨L0.readBy, 0, none⟩), 24, 24, ((hO.blk (.head _)).rdv rfl), ?_⟩
            refine ⟨(some ⟨L0.readBy, 0, none⟩), 24, 24, ((hO.blk (.head _)).rdv rfl), ?_⟩
            obtain ⟨x57, g58, h⟩ := getS h
            refine ⟨_, _, rfl, g58.1, g58.2.1, rfl, ?_⟩
            refine ⟨x57, ((hO.arr (.tail _ (.tail _ (.head _)))).rd (i := Int.toNat r54) (j := 0) lenU g58.2.2 (by decide) (zo0 _) rfl), ?_⟩
            refine ⟨x57, r28, rfl, rfl, ?_⟩
            refine ⟨_, _, rfl, g58.1, g58.2.1, rfl, ?_⟩
            refine ⟨((hO.arr (.tail _ (.tail _ (.head _)))).wr1 lenU (i := Int.toNat r54) (j := 0) (getLt g58.2.2) (Nat.le_of_ble_eq_true rfl) (zo0 _)), ?_⟩
            intro H59 eH59
            replace hO := os2 (l' := List.flatMap encU (List.set S46.readBy (Int.toNat r54) (x57 &&& ~~~r28))) hO eH59 (flat_set1 lenU (i := Int.toNat r54) (j := 0) g58.2.2 (by decide) (zo0 _) rfl)
            refine ⟨x49, (1 : BitVec 32), rfl, rfl, ?_⟩
            refine ⟨x49, (x49 - (1 : BitVec 32)), rfl, rfl, ?_⟩
            replace hO := close_G L0 ({ S46 with readBy := (List.set S46.readBy (Int.toNat r54) (x57 &&& ~~~r28)) }) (hO)
            subst hrec50
            refine ⟨⟨⟨(x49 &&& (x49 - (1 : BitVec 32))), rfl⟩, ?_⟩, ?_⟩
            · exact (lst_step hm51 ⟨(x49 &&& (x49 - (1 : BitVec 32))), rfl, ({ S46 with readBy := (List.set S46.readBy (Int.toNat r54) (x57 &&& ~~~r28)) }), hO, h⟩).1
            · exact (lst_step hm51 ⟨(x49 &&& (x49 - (1 : BitVec 32))), rfl, ({ S46 with readBy := (List.set S46.readBy (Int.toNat r54) (x57 &&& ~~~r28)) }), hO, h⟩).2

          · replace w53 := bnotF w53
            replace h := ifTd w53 h
            replace hO := open_G (pu0 hO)
            refine ⟨(some ⟨L0.reads, 0, none⟩), 24, 24, ((hO.blk (.head _)).rdv rfl), ?_⟩
            obtain ⟨x60, g61, h⟩ := getS h
            refine ⟨_, _, rfl, g61.1, g61.2.1, rfl, ?_⟩
            refine ⟨x60, ((hO.arr (.tail _ (.head _))).rd (i := Int.toNat z1) (j := 0) lenU g61.2.2 (by decide) (zo0 _) rfl), ?_⟩
            refine ⟨z2, x60, rfl, rfl, ?_⟩
            replace hO := close_G L0 S46 (hO)
            refine ⟨fun l Hc => ∃ m : Nat, ∃ s_0 : BitVec 32, nth l 0 = .int .u32 s_0.toNat ∧ ∃ S75 : GS, Own Hc [oG z0 L0 S75] F ∧ (l108_0 n_ z1 z2 r28 m s_0 S75) = some r_, fun l Hc => Classical.epsilon <| lsp fun m => ∃ s_0 : BitVec 32, nth l 0 = .int .u32 s_0.toNat ∧ ∃ S75 : GS, Own Hc [oG z0 L0 S75] F ∧ (l108_0 n_ z1 z2 r28 m s_0 S75) = some r_, ?_, ?_⟩
            · exact ⟨⟨(z2 &&& ~~~x60), rfl⟩, n_, (z2 &&& ~~~x60), rfl, S46, hO, h⟩
            · clear hO h
              intro H76 u77 x78 hJ
              obtain ⟨m96, hm80, hJ⟩ := lst_get hJ
              obtain ⟨s_0, hu97, S75, hO, h⟩ := hJ
              obtain rfl := injV hu97
              rcases m96 with _ | k95
              · exact absurd h (by simp [l108_0, asI, asB, asC, asS])
              obtain ⟨rec79, hrec79, h⟩ : ∃ f_, f_ = l108_0 n_ z1 z2 r28 k95 ∧ (l108_0_st n_ z1 z2 r28 f_ x78 S75) = some r_ := ⟨_, rfl, h⟩
              unfold l108_0_st at h
              refine ⟨fun w81 => ?_, fun w82 => ?_⟩
              · replace w81 := bnotT w81
                replace h := ifFd w81 h
                obtain ⟨r83, e84, h⟩ := bindS h
                refine c129 x78 r83 e84 _ _ _ (fr0 hO) (fun H85 hO => ?_)
                replace hO := un0 hO
                refine ⟨r83, rfl, ?_⟩
                replace hO := open_G (pu0 hO)
                refine ⟨(some ⟨L0.readBy, 0, none⟩), 24, 24, ((hO.blk (.head _)).rdv rfl), ?_⟩
                refine ⟨(some ⟨L0.readBy, 0, none⟩), 24, 24, ((hO.blk (.head _)).rdv rfl), ?_⟩
                obtain ⟨x86, g87, h⟩ := getS h
                refine ⟨_, _, rfl, g87.1, g87.2.1, rfl, ?_⟩
                refine ⟨x86, ((hO.arr (.tail _ (.tail _ (.head _)))).rd (i := Int.toNat r83) (j := 0) lenU g87.2.2 (by decide) (zo0 _) rfl), ?_⟩
                refine ⟨x86, r28, rfl, rfl, ?_⟩
                refine ⟨_, _, rfl, g87.1, g87.2.1, rfl, ?_⟩
                refine ⟨((hO.arr (.tail _ (.tail _ (.head _)))).wr1 lenU (i := Int.toNat r83) (j := 0) (getLt g87.2.2) (Nat.le_of_ble_eq_true rfl) (zo0 _)), ?_⟩
                intro H88 eH88
                replace hO := os2 (l' := List.flatMap encU (List.set S75.readBy (Int.toNat r83) (x86 ||| r28))) hO eH88 (flat_set1 lenU (i := Int.toNat r83) (j := 0) g87.2.2 (by decide) (zo0 _) rfl)
                refine ⟨x78, (1 : BitVec 32), rfl, rfl, ?_⟩
                refine ⟨x78, (x78 - (1 : BitVec 32)), rfl, rfl, ?_⟩
                replace hO := close_G L0 ({ S75 with readBy := (List.set S75.readBy (Int.toNat r83) (x86 ||| r28)) }) (hO)
                subst hrec79
                refine ⟨⟨⟨(x78 &&& (x78 - (1 : BitVec 32))), rfl⟩, ?_⟩, ?_⟩
                · exact (lst_step hm80 ⟨(x78 &&& (x78 - (1 : BitVec 32))), rfl, ({ S75 with readBy := (List.set S75.readBy (Int.toNat r83) (x86 ||| r28)) }), hO, h⟩).1
                · exact (lst_step hm80 ⟨(x78 &&& (x78 - (1 : BitVec 32))), rfl, ({ S75 with readBy := (List.set S75.readBy (Int.toNat r83) (x86 ||| r28)) }), hO, h⟩).2

              · replace w82 := bnotF w82
                replace h := ifTd w82 h
                replace hO := open_G (pu0 hO)
                refine ⟨(some ⟨L0.reads, 0, none⟩), 24, 24, ((hO.blk (.head _)).rdv rfl), ?_⟩
                obtain ⟨x89, g90, h⟩ := getS h
                refine ⟨_, _, rfl, g90.1, g90.2.1, rfl, ?_⟩
                refine ⟨((hO.arr (.tail _ (.head _))).wr1 lenU (i := Int.toNat z1) (j := 0) (getLt g90.2.2) (Nat.le_of_ble_eq_true rfl) (zo0 _)), ?_⟩
                intro H91 eH91
                replace hO := os1 (l' := List.flatMap encU (List.set S75.reads (Int.toNat z1) z2)) hO eH91 (flat_set1 lenU (i := Int.toNat z1) (j := 0) g90.2.2 (by decide) (zo0 _) rfl)
                replace hO := close_G L0 ({ S75 with reads := (List.set S75.reads (Int.toNat z1) z2) }) (hO)
                obtain ⟨r92, e93, h⟩ := bindS h
                refine c130 n_ z0 L0 ({ S75 with reads := (List.set S75.reads (Int.toNat z1) z2) }) z1 r92 e93 _ _ _ (fr1 hO) (fun H94 hO => ?_)
                replace hO := un1 hO
                obtain rfl := Option.some.inj h
                exact hR _ hO






    · replace h := ifTd w24 h
      replace hO := close_G L0 ({ S0 with touched := (0 : Int) }) (hO)
      obtain rfl := Option.some.inj h
      exact hR _ hO


  · replace h := ifTd w22 h
    replace hO := close_G L0 ({ S0 with touched := (0 : Int) }) (hO)
    obtain rfl := Option.some.inj h
    exact hR _ hO



theorem c110 (z0 : Nat) (L0 : GL) (S0 : GS) (r_ : BitVec 32) (h : s110 S0 = r_) (F : List Ent) (H : Heap) (R : Value → Heap → Prop)
    (hO : Own H [oG z0 L0 S0] F)
    (hR : ∀ (H' : Heap) , Own H' [oG z0 L0 S0] F → R (.int .u32 (r_.toNat : Int)) H') :
    HCalls Tryz.prog 110 #[Value.pointer (some ⟨z0, 0, none⟩)] H R := by
  refine vc110 z0 H R ?_
  unfold s110 at h
  replace hO := open_G (pu0 hO)
  refine ⟨S0.cyclic, ((hO.blk (.head _)).rdv rfl), ?_⟩
  replace hO := close_G L0 S0 (hO)
  subst h
  exact hR _ hO


theorem c131 (z0 : Int) (r_ : ValT) (h : s131 z0 = r_) (F : List Ent) (H : Heap) (R : Value → Heap → Prop)
    (hO : Own H [] F)
    (hR : ∀ (H' : Heap) , Own H' [] F → R (.agg ⟨encVal r_⟩) H') :
    HCalls Tryz.prog 131 #[I z0] H R := by
  refine vc131 z0 H R ?_
  unfold s131 at h
  intro H21 eH21
  replace hO := own_new (l := encVal (⟨(0 : Int), (0 : Int), ([] : List UInt8)⟩ : ValT)) hO eH21 rfl
  refine ⟨(hO.blk (.head _)).wr (Nat.le_of_ble_eq_true rfl), ?_⟩
  intro H22 eH22
  replace hO := oz0 (l' := encVal (⟨(4 : Int), z0, ([] : List UInt8)⟩ : ValT)) hO eH22 rfl
  refine ⟨(⟨(4 : Int), z0, ([] : List UInt8)⟩ : ValT), (hO.blk (.head _)).rowT rfl, ?_⟩
  subst h
  exact hR _ (dr0 (hO))


theorem c111 (n_ : Nat) (z0 : Nat) (L0 : KL) (S0 : KS) (z1 : BitVec 32) (r_ : KS) (h : s111 n_ S0 z1 = some r_) (F : List Ent) (H : Heap) (R : Value → Heap → Prop)
    (hO : Own H [oK z0 L0 S0] F)
    (hR : ∀ (H' : Heap) , Own H' [oK z0 L0 r_] F → R (.tuple #[]) H') :
    HCalls Tryz.prog 111 #[Value.pointer (some ⟨z0, 0, none⟩), Value.int .u32 (z1.toNat : Int)] H R := by
  refine vc111 z0 z1 H R ?_
  unfold s111 at h
  refine ⟨fun l Hc => ∃ m : Nat, ∃ S45 : KS, Own Hc [oK z0 L0 S45] F ∧ (l111_3 n_ z1 m (asI (nth l 0)) S45) = some r_, fun l Hc => Classical.epsilon <| lsp fun m => ∃ S45 : KS, Own Hc [oK z0 L0 S45] F ∧ (l111_3 n_ z1 m (asI (nth l 0)) S45) = some r_, ?_, ?_⟩
  · exact ⟨n_, S0, hO, h⟩
  · clear hO h
    intro H46 u47 x48 hJ
    obtain ⟨m83, hm50, hJ⟩ := lst_get hJ
    obtain ⟨S45, hO, h⟩ := hJ
    rcases m83 with _ | k82
    · exact absurd h (by simp [l111_3, asI, asB, asC, asS])
    obtain ⟨rec49, hrec49, h⟩ : ∃ f_, f_ = l111_3 n_ z1 k82 ∧ (l111_3_st n_ z1 f_ x48 S45) = some r_ := ⟨_, rfl, h⟩
    unfold l111_3_st at h
    refine ⟨fun w51 => ?_, fun w52 => ?_⟩
    · replace h := ifTd w51 h
      refine ⟨fun l Hc => ∃ S66 : KS, Own Hc [oK z0 L0 S66] F ∧ (k111_2 x48 rec49 S66) = some r_, ?_, ?_⟩
      · obtain ⟨q70, h⟩ := ckS h
        refine ⟨q70, ?_⟩
        obtain ⟨q71, h⟩ := ckS h
        refine ⟨z1, rfl, q71, ?_⟩
        refine ⟨(z1 >>> Int.toNat x48), (1 : BitVec 32), rfl, rfl, ?_⟩
        refine ⟨fun w72 => ?_, fun w73 => ?_⟩
        · replace h := ifTd w72 h
          obtain ⟨x75, g76, h⟩ := getS h
          refine ⟨?_, ?_⟩
          · replace hO := open_K (pu0 hO)
            refine ⟨(some ⟨L0.shown, 0, none⟩), 24, 24, ((hO.blk (.head _)).rdv rfl), ?_⟩
            refine c131 (6 : Int) _ rfl _ _ _ (fr0 hO) (fun H78 hO => ?_)
            replace hO := un0 hO
            refine ⟨(s131 (6 : Int)), rfl, ?_⟩
            refine ⟨_, _, rfl, g76.1, g76.2.1, rfl, ?_⟩
            refine ⟨((hO.arr (.tail _ (.tail _ (.tail _ (.tail _ (.head _)))))).wr1 lenVal (i := Int.toNat x48) (j := 0) (getLt g76.2.2) (Nat.le_of_ble_eq_true rfl) (zo0 _)), ?_⟩
            intro H79 eH79
            replace hO := oz4 (l' := List.flatMap encVal (List.set S45.shown (Int.toNat x48) (s131 (6 : Int)))) hO eH79 (flat_put1 lenVal (i := Int.toNat x48) (x := (s131 (6 : Int))) (getLt g76.2.2) (Nat.zero_add _))
            replace hO := close_K L0 ({ S45 with shown := (List.set S45.shown (Int.toNat x48) (s131 (6 : Int))) }) (hO)
            exact ⟨({ S45 with shown := (List.set S45.shown (Int.toNat x48) (s131 (6 : Int))) }), hO, h⟩

          · refine c131 (6 : Int) _ rfl _ _ _ (fr0 hO) (fun H80 hO => ?_)
            replace hO := un0 hO
            refine ⟨(s131 (6 : Int)), rfl, ?_⟩
            replace hO := open_K (pu0 hO)
            refine ⟨(some ⟨L0.shown, 0, none⟩), 24, 24, ((hO.blk (.head _)).rdv rfl), ?_⟩
            refine ⟨_, _, rfl, g76.1, g76.2.1, rfl, ?_⟩
            refine ⟨((hO.arr (.tail _ (.tail _ (.tail _ (.tail _ (.head _)))))).wr1 lenVal (i := Int.toNat x48) (j := 0) (getLt g76.2.2) (Nat.le_of_ble_eq_true rfl) (zo0 _)), ?_⟩
            intro H81 eH81
            replace hO := oz4 (l' := List.flatMap encVal (List.set S45.shown (Int.toNat x48) (s131 (6 : Int)))) hO eH81 (flat_put1 lenVal (i := Int.toNat x48) (x := (s131 (6 : Int))) (getLt g76.2.2) (Nat.zero_add _))
            replace hO := close_K L0 ({ S45 with shown := (List.set S45.shown (Int.toNat x48) (s131 (6 : Int))) }) (hO)
            exact ⟨({ S45 with shown := (List.set S45.shown (Int.toNat x48) (s131 (6 : Int))) }), hO, h⟩


        · replace h := ifFd w73 h
          exact ⟨S45, hO, h⟩


      · clear hO h
        intro H67 u68  hJ
        obtain ⟨S66, hO, h⟩ := hJ
        replace h : (k111_2 x48 rec49 S66) = some r_ := h
        unfold k111_2 at h
        obtain ⟨q69, h⟩ := ckS h
        refine ⟨_, .inl ⟨q69, rfl⟩, ?_⟩
        subst hrec49
        exact lst_step hm50 ⟨S66, hO, h⟩


    · replace h := ifFd w52 h
      obtain rfl := Option.some.inj h
      exact hR _ hO




theorem c112 (n_ : Nat) (z0 : Nat) (L0 : GL) (S0 : GS) (z1 : BitVec 32) (r_ : List Int) (h : s112 n_ S0 z1 = some r_) (F : List Ent) (H : Heap) (R : Value → Heap → Prop)
    (hO : Own H [oG z0 L0 S0] F)
    (hR : ∀ (H' : Heap) (a_0 : Option Addr) (m_0 c_0 : Nat) (C_0 : List Ent) (_ : SH 3 encI r_ a_0 m_0 C_0), Own H' [oG z0 L0 S0, C_0] F → R (.slice a_0 m_0 c_0) H') :
    HCalls Tryz.prog 112 #[Value.pointer (some ⟨z0, 0, none⟩), Value.int .u32 (z1.toNat : Int)] H R := by
  refine vc112 z0 z1 H R ?_
  unfold s112 at h
  refine ⟨z1, (16777215 : BitVec 32), rfl, rfl, ?_⟩
  replace hO := open_G (pu0 hO)
  refine ⟨S0.cyclic, ((hO.blk (.head _)).rdv rfl), ?_⟩
  refine ⟨(z1 &&& (16777215 : BitVec 32)), S0.cyclic, rfl, rfl, ?_⟩
  refine ⟨fun w21 => ?_, fun w22 => ?_⟩
  · replace h := ifTd w21 h
    replace hO := close_G L0 S0 (hO)
    replace hO := own_nil hO
    obtain rfl := Option.some.inj h
    exact hR _ none 0 0 [] shNil (pu1 (pu0 hO))

  · replace h := ifFd w22 h
    refine ⟨rfl, (by decide), (by decide), rfl, ?_⟩
    intro H23 eH23
    replace hO := own_new (l := List.flatMap encI (List.replicate 25 (0 : Int))) hO eH23 (z3 _)
    replace hO := close_G L0 S0 (pu5 (pu5 (pu5 (pu5 (pu5 hO)))))
    refine ⟨fun l Hc => ∃ m : Nat, ∃ s_1 : BitVec 32, nth l 1 = .int .u32 s_1.toNat ∧ ∃ a43 : List Int, Own Hc [oG z0 L0 S0, cellE 3 H.size (List.flatMap encI a43)] F ∧ (l112_2 n_ S0 z1 m (asI (nth l 0)) s_1 a43) = some r_, fun l Hc => Classical.epsilon <| lsp fun m => ∃ s_1 : BitVec 32, nth l 1 = .int .u32 s_1.toNat ∧ ∃ a43 : List Int, Own Hc [oG z0 L0 S0, cellE 3 H.size (List.flatMap encI a43)] F ∧ (l112_2 n_ S0 z1 m (asI (nth l 0)) s_1 a43) = some r_, ?_, ?_⟩
    · exact ⟨⟨((z1 &&& (16777215 : BitVec 32)) &&& ~~~S0.cyclic), rfl⟩, n_, ((z1 &&& (16777215 : BitVec 32)) &&& ~~~S0.cyclic), rfl, (List.replicate 25 (0 : Int)), hO, h⟩
    · clear hO h
      intro H44 u45 x46 x47 hJ
      obtain ⟨m163, hm49, hJ⟩ := lst_get hJ
      obtain ⟨s_1, hu164, a43, hO, h⟩ := hJ
      obtain rfl := injV hu164
      rcases m163 with _ | k162
      · exact absurd h (by simp [l112_2, asI, asB, asC, asS])
      obtain ⟨rec48, hrec48, h⟩ : ∃ f_, f_ = l112_2 n_ S0 z1 k162 ∧ (l112_2_st n_ S0 z1 f_ x46 x47 a43) = some r_ := ⟨_, rfl, h⟩
      unfold l112_2_st at h
      refine ⟨fun w50 => ?_, fun w51 => ?_⟩
      · replace w50 := bnotT w50
        replace h := ifFd w50 h
        obtain ⟨r52, e53, h⟩ := bindS h
        refine c129 x47 r52 e53 _ _ _ (fr0 hO) (fun H54 hO => ?_)
        replace hO := un0 hO
        refine ⟨r52, rfl, ?_⟩
        replace hO := open_G (pu0 hO)
        refine ⟨(some ⟨L0.level, 0, none⟩), 24, 24, ((hO.blk (.head _)).rdv rfl), ?_⟩
        obtain ⟨x55, g56, h⟩ := getS h
        refine ⟨_, _, rfl, g56.1, g56.2.1, rfl, ?_⟩
        refine ⟨x55, ((hO.arr (.tail _ (.tail _ (.tail _ (.head _))))).rd (i := Int.toNat r52) (j := 0) lenI g56.2.2 (by decide) (zo0 _) rfl), ?_⟩
        obtain ⟨q57, h⟩ := ckS h
        refine ⟨_, .inl ⟨q57, rfl⟩, ?_⟩
        obtain ⟨x58, g59, h⟩ := getS h
        refine ⟨_, _, rfl, g59.1, g59.2.1, rfl, ?_⟩
        refine ⟨x58, ((hO.arr (.tail _ (.tail _ (.tail _ (.tail _ (.tail _ (.head _))))))).rd (i := Int.toNat (x55 + (1 : Int))) (j := 0) lenI g59.2.2 (by decide) (zo0 _) rfl), ?_⟩
        obtain ⟨q60, h⟩ := ckS h
        refine ⟨_, .inl ⟨q60, rfl⟩, ?_⟩
        refine ⟨_, _, rfl, g59.1, g59.2.1, rfl, ?_⟩
        refine ⟨((hO.arr (.tail _ (.tail _ (.tail _ (.tail _ (.tail _ (.head _))))))).wr1 lenI (i := Int.toNat (x55 + (1 : Int))) (j := 0) (getLt g59.2.2) (Nat.le_of_ble_eq_true rfl) (zo0 _)), ?_⟩
        intro H61 eH61
        replace hO := os5 (l' := List.flatMap encI (List.set a43 (Int.toNat (x55 + (1 : Int))) (x58 + (1 : Int)))) hO eH61 (flat_set1 lenI (i := Int.toNat (x55 + (1 : Int))) (j := 0) g59.2.2 (by decide) (zo0 _) rfl)
        obtain ⟨q62, h⟩ := ckS h
        refine ⟨_, .inl ⟨q62, rfl⟩, ?_⟩
        refine ⟨x47, (1 : BitVec 32), rfl, rfl, ?_⟩
        refine ⟨x47, (x47 - (1 : BitVec 32)), rfl, rfl, ?_⟩
        replace hO := close_G L0 S0 (hO)
        subst hrec48
        refine ⟨⟨⟨(x47 &&& (x47 - (1 : BitVec 32))), rfl⟩, ?_⟩, ?_⟩
        · exact (lst_step hm49 ⟨(x47 &&& (x47 - (1 : BitVec 32))), rfl, (List.set a43 (Int.toNat (x55 + (1 : Int))) (x58 + (1 : Int))), hO, h⟩).1
        · exact (lst_step hm49 ⟨(x47 &&& (x47 - (1 : BitVec 32))), rfl, (List.set a43 (Int.toNat (x55 + (1 : Int))) (x58 + (1 : Int))), hO, h⟩).2

      · replace w51 := bnotF w51
        replace h := ifTd w51 h
        refine ⟨fun l Hc => ∃ m : Nat, ∃ a78 : List Int, Own Hc [oG z0 L0 S0, cellE 3 H.size (List.flatMap encI a78)] F ∧ (l112_1 n_ S0 z1 x46 m (asI (nth l 0)) a78) = some r_, fun l Hc => Classical.epsilon <| lsp fun m => ∃ a78 : List Int, Own Hc [oG z0 L0 S0, cellE 3 H.size (List.flatMap encI a78)] F ∧ (l112_1 n_ S0 z1 x46 m (asI (nth l 0)) a78) = some r_, ?_, ?_⟩
        · exact ⟨n_, a43, hO, h⟩
        · clear hO h
          intro H79 u80 x81 hJ
          obtain ⟨m161, hm83, hJ⟩ := lst_get hJ
          obtain ⟨a78, hO, h⟩ := hJ
          rcases m161 with _ | k160
          · exact absurd h (by simp [l112_1, asI, asB, asC, asS])
          obtain ⟨rec82, hrec82, h⟩ : ∃ f_, f_ = l112_1 n_ S0 z1 x46 k160 ∧ (l112_1_st n_ S0 z1 x46 f_ x81 a78) = some r_ := ⟨_, rfl, h⟩
          unfold l112_1_st at h
          refine ⟨fun w84 => ?_, fun w85 => ?_⟩
          · replace h := ifTd w84 h
            obtain ⟨x86, g87, h⟩ := getS h
            refine ⟨_, _, rfl, g87.1, g87.2.1, rfl, ?_⟩
            refine ⟨x86, ((hO.arr (.tail _ (.head _))).rd (i := Int.toNat x81) (j := 0) lenI g87.2.2 (by decide) (zo0 _) rfl), ?_⟩
            obtain ⟨q88, h⟩ := ckS h
            refine ⟨q88, ?_⟩
            obtain ⟨x89, g90, h⟩ := getS h
            refine ⟨_, _, rfl, g90.1, g90.2.1, rfl, ?_⟩
            refine ⟨x89, ((hO.arr (.tail _ (.head _))).rd (i := Int.toNat (x81 - (1 : Int))) (j := 0) lenI g90.2.2 (by decide) (zo0 _) rfl), ?_⟩
            obtain ⟨q91, h⟩ := ckS h
            refine ⟨_, .inl ⟨q91, rfl⟩, ?_⟩
            refine ⟨_, _, rfl, g87.1, g87.2.1, rfl, ?_⟩
            refine ⟨((hO.arr (.tail _ (.head _))).wr1 lenI (i := Int.toNat x81) (j := 0) (getLt g87.2.2) (Nat.le_of_ble_eq_true rfl) (zo0 _)), ?_⟩
            intro H92 eH92
            replace hO := os1 (l' := List.flatMap encI (List.set a78 (Int.toNat x81) (x86 + x89))) hO eH92 (flat_set1 lenI (i := Int.toNat x81) (j := 0) g87.2.2 (by decide) (zo0 _) rfl)
            obtain ⟨q93, h⟩ := ckS h
            refine ⟨_, .inl ⟨q93, rfl⟩, ?_⟩
            subst hrec82
            exact lst_step hm83 ⟨(List.set a78 (Int.toNat x81) (x86 + x89)), hO, h⟩

          · replace h := ifFd w85 h
            obtain ⟨q94, h⟩ := ckS h
            refine ⟨rfl, q94.1, q94.2, rfl, ?_⟩
            intro H95 eH95
            replace hO := own_new (l := List.flatMap encI (List.replicate (Int.toNat x46) (0 : Int))) hO eH95 (z3 _)
            refine ⟨fun l Hc => ∃ m : Nat, ∃ s_0 : BitVec 32, nth l 0 = .int .u32 s_0.toNat ∧ ∃ a135 : List Int, ∃ a136 : List Int, Own Hc [cellE 3 H79.size (List.flatMap encI a135), oG z0 L0 S0, cellE 3 H.size (List.flatMap encI a136)] F ∧ (l112_0 n_ S0 x46 m s_0 a135 a136) = some r_, fun l Hc => Classical.epsilon <| lsp fun m => ∃ s_0 : BitVec 32, nth l 0 = .int .u32 s_0.toNat ∧ ∃ a135 : List Int, ∃ a136 : List Int, Own Hc [cellE 3 H79.size (List.flatMap encI a135), oG z0 L0 S0, cellE 3 H.size (List.flatMap encI a136)] F ∧ (l112_0 n_ S0 x46 m s_0 a135 a136) = some r_, ?_, ?_⟩
            · exact ⟨⟨((z1 &&& (16777215 : BitVec 32)) &&& ~~~S0.cyclic), rfl⟩, n_, ((z1 &&& (16777215 : BitVec 32)) &&& ~~~S0.cyclic), rfl, (List.replicate (Int.toNat x46) (0 : Int)), a78, hO, h⟩
            · clear hO h
              intro H137 u138 x139 hJ
              obtain ⟨m158, hm141, hJ⟩ := lst_get hJ
              obtain ⟨s_0, hu159, a135, a136, hO, h⟩ := hJ
              obtain rfl := injV hu159
              rcases m158 with _ | k157
              · exact absurd h (by simp [l112_0, asI, asB, asC, asS])
              obtain ⟨rec140, hrec140, h⟩ : ∃ f_, f_ = l112_0 n_ S0 x46 k157 ∧ (l112_0_st n_ S0 x46 f_ x139 a135 a136) = some r_ := ⟨_, rfl, h⟩
              unfold l112_0_st at h
              refine ⟨fun w142 => ?_, fun w143 => ?_⟩
              · replace w142 := bnotT w142
                replace h := ifFd w142 h
                obtain ⟨r144, e145, h⟩ := bindS h
                refine c129 x139 r144 e145 _ _ _ (fr0 hO) (fun H146 hO => ?_)
                replace hO := un0 hO
                refine ⟨r144, rfl, ?_⟩
                replace hO := open_G (pu1 hO)
                refine ⟨(some ⟨L0.level, 0, none⟩), 24, 24, ((hO.blk (.head _)).rdv rfl), ?_⟩
                obtain ⟨x147, g148, h⟩ := getS h
                refine ⟨_, _, rfl, g148.1, g148.2.1, rfl, ?_⟩
                refine ⟨x147, ((hO.arr (.tail _ (.tail _ (.tail _ (.head _))))).rd (i := Int.toNat r144) (j := 0) lenI g148.2.2 (by decide) (zo0 _) rfl), ?_⟩
                obtain ⟨x149, g150, h⟩ := getS h
                refine ⟨_, _, rfl, g150.1, g150.2.1, rfl, ?_⟩
                refine ⟨x149, ((hO.arr (.tail _ (.tail _ (.tail _ (.tail _ (.tail _ (.tail _ (.head _)))))))).rd (i := Int.toNat x147) (j := 0) lenI g150.2.2 (by decide) (zo0 _) rfl), ?_⟩
                obtain ⟨x151, g152, h⟩ := getS h
                refine ⟨_, _, rfl, g152.1, g152.2.1, rfl, ?_⟩
                refine ⟨((hO.arr (.tail _ (.tail _ (.tail _ (.tail _ (.tail _ (.head _))))))).wr1 lenI (i := Int.toNat x149) (j := 0) (getLt g152.2.2) (Nat.le_of_ble_eq_true rfl) (zo0 _)), ?_⟩
                intro H153 eH153
                replace hO := os5 (l' := List.flatMap encI (List.set a135 (Int.toNat x149) r144)) hO eH153 (flat_set1 lenI (i := Int.toNat x149) (j := 0) g152.2.2 (by decide) (zo0 _) rfl)
                refine ⟨(some ⟨L0.level, 0, none⟩), 24, 24, ((hO.blk (.head _)).rdv rfl), ?_⟩
                refine ⟨_, _, rfl, g148.1, g148.2.1, rfl, ?_⟩
                refine ⟨x147, ((hO.arr (.tail _ (.tail _ (.tail _ (.head _))))).rd (i := Int.toNat r144) (j := 0) lenI g148.2.2 (by decide) (zo0 _) rfl), ?_⟩
                refine ⟨_, _, rfl, g150.1, g150.2.1, rfl, ?_⟩
                refine ⟨x149, ((hO.arr (.tail _ (.tail _ (.tail _ (.tail _ (.tail _ (.tail _ (.head _)))))))).rd (i := Int.toNat x147) (j := 0) lenI g150.2.2 (by decide) (zo0 _) rfl), ?_⟩
                obtain ⟨q154, h⟩ := ckS h
                refine ⟨_, .inl ⟨q154, rfl⟩, ?_⟩
                refine ⟨_, _, rfl, g150.1, g150.2.1, rfl, ?_⟩
                refine ⟨((hO.arr (.tail _ (.tail _ (.tail _ (.tail _ (.tail _ (.tail _ (.head _)))))))).wr1 lenI (i := Int.toNat x147) (j := 0) (getLt g150.2.2) (Nat.le_of_ble_eq_true rfl) (zo0 _)), ?_⟩
                intro H155 eH155
                replace hO := os6 (l' := List.flatMap encI (List.set a136 (Int.toNat x147) (x149 + (1 : Int)))) hO eH155 (flat_set1 lenI (i := Int.toNat x147) (j := 0) g150.2.2 (by decide) (zo0 _) rfl)
                refine ⟨x139, (1 : BitVec 32), rfl, rfl, ?_⟩
                refine ⟨x139, (x139 - (1 : BitVec 32)), rfl, rfl, ?_⟩
                replace hO := close_G L0 S0 (hO)
                replace hO := pu2 (pu1 (pu2 hO))
                subst hrec140
                refine ⟨⟨⟨(x139 &&& (x139 - (1 : BitVec 32))), rfl⟩, ?_⟩, ?_⟩
                · exact (lst_step hm141 ⟨(x139 &&& (x139 - (1 : BitVec 32))), rfl, (List.set a135 (Int.toNat x149) r144), (List.set a136 (Int.toNat x147) (x149 + (1 : Int))), hO, h⟩).1
                · exact (lst_step hm141 ⟨(x139 &&& (x139 - (1 : BitVec 32))), rfl, (List.set a135 (Int.toNat x149) r144), (List.set a136 (Int.toNat x147) (x149 + (1 : Int))), hO, h⟩).2

              · replace w143 := bnotF w143
                replace h := ifTd w143 h
                obtain ⟨q156, h⟩ := ckS h
                obtain rfl := Option.some.inj h
                exact hR _ (some ⟨H79.size, 0, none⟩) (Int.toNat x46) (Int.toNat x46) _ (shBlk q156) (dr2 (pu1 (pu0 hO)))









theorem c132 (z0 : Nat) (L0 : GL) (S0 : GS) (z1 : Int) (r_ : BitVec 32) (h : s132 S0 z1 = some r_) (F : List Ent) (H : Heap) (R : Value → Heap → Prop)
    (hO : Own H [oG z0 L0 S0] F)
    (hR : ∀ (H' : Heap) , Own H' [oG z0 L0 S0] F → R (.int .u32 (r_.toNat : Int)) H') :
    HCalls Tryz.prog 132 #[Value.pointer (some ⟨z0, 0, none⟩), I z1] H R := by
  refine vc132 z0 z1 H R ?_
  unfold s132 at h
  refine ⟨fun w22 => ?_, fun w21 => ?_⟩
  · replace h := ifFd w22 h
    refine ⟨fun w23 => ?_, fun w24 => ?_⟩
    · replace h := ifTd w23 h
      obtain rfl := Option.some.inj h
      exact hR _ hO

    · replace h := ifFd w24 h
      replace hO := open_G (pu0 hO)
      refine ⟨(some ⟨L0.reads, 0, none⟩), 24, 24, ((hO.blk (.head _)).rdv rfl), ?_⟩
      obtain ⟨x25, g26, h⟩ := getS h
      refine ⟨_, _, rfl, g26.1, g26.2.1, rfl, ?_⟩
      refine ⟨x25, ((hO.arr (.tail _ (.head _))).rd (i := Int.toNat z1) (j := 0) lenU g26.2.2 (by decide) (zo0 _) rfl), ?_⟩
      replace hO := close_G L0 S0 (hO)
      obtain rfl := Option.some.inj h
      exact hR _ hO


  · replace h := ifTd w21 h
    obtain rfl := Option.some.inj h
    exact hR _ hO



theorem c155 (z0 : ValT) (r_ : Bool) (h : s155 z0 = r_) (F : List Ent) (H : Heap) (R : Value → Heap → Prop)
    (hO : Own H [] F)
    (hR : ∀ (H' : Heap) , Own H' [] F → R (.bool r_) H') :
    HCalls Tryz.prog 155 #[Value.agg ⟨encVal z0⟩] H R := by
  refine vc155 z0 H R ?_
  unfold s155 at h
  intro H21 eH21
  replace hO := own_new (l := encVal z0) hO eH21 rfl
  refine ⟨z0.kind, ((hO.blk (.head _)).rdv rfl), ?_⟩
  refine ⟨fun w22 => ?_, fun w23 => ?_⟩
  · replace h := ifTd w22 h
    refine ⟨z0.n, ((hO.blk (.head _)).rdv rfl), ?_⟩
    refine ⟨fun w24 => ?_, fun w25 => ?_⟩
    · replace h := ifTd w24 h
      refine ⟨z0.s, ((hO.blk (.head _)).rdv rfl), ?_⟩
      subst h
      exact hR _ (dr0 (hO))

    · replace h := ifFd w25 h
      subst h
      exact hR _ (dr0 (hO))


  · replace h := ifFd w23 h
    refine ⟨fun w26 => ?_, fun w27 => ?_⟩
    · replace h := ifTd w26 h
      refine ⟨z0.n, ((hO.blk (.head _)).rdv rfl), ?_⟩
      refine ⟨fun w28 => ?_, fun w29 => ?_⟩
      · replace h := ifTd w28 h
        refine ⟨z0.n, ((hO.blk (.head _)).rdv rfl), ?_⟩
        refine ⟨fun w30 => ?_, fun w31 => ?_⟩
        · replace h := ifTd w30 h
          refine ⟨z0.s, ((hO.blk (.head _)).rdv rfl), ?_⟩
          subst h
          exact hR _ (dr0 (hO))

        · replace h := ifFd w31 h
          subst h
          exact hR _ (dr0 (hO))


      · replace h := ifFd w29 h
        subst h
        exact hR _ (dr0 (hO))


    · replace h := ifFd w27 h
      refine ⟨fun w32 => ?_, fun w33 => ?_⟩
      · replace h := ifTd w32 h
        refine ⟨z0.n, ((hO.blk (.head _)).rdv rfl), ?_⟩
        refine ⟨fun w34 => ?_, fun w35 => ?_⟩
        · replace h := ifTd w34 h
          refine ⟨z0.s, ((hO.blk (.head _)).rdv rfl), ?_⟩
          subst h
          exact hR _ (dr0 (hO))

        · replace h := ifFd w35 h
          subst h
          exact hR _ (dr0 (hO))


      · replace h := ifFd w33 h
        refine ⟨fun w36 => ?_, fun w37 => ?_⟩
        · replace h := ifTd w36 h
          refine ⟨z0.n, ((hO.blk (.head _)).rdv rfl), ?_⟩
          refine ⟨fun w39 => ?_, fun w38 => ?_⟩
          · replace h := ifFd w39 h
            refine ⟨z0.n, ((hO.blk (.head _)).rdv rfl), ?_⟩
            refine ⟨fun w40 => ?_, fun w41 => ?_⟩
            · replace h := ifTd w40 h
              refine ⟨z0.s, ((hO.blk (.head _)).rdv rfl), ?_⟩
              subst h
              exact hR _ (dr0 (hO))

            · replace h := ifFd w41 h
              subst h
              exact hR _ (dr0 (hO))


          · replace h := ifTd w38 h
            refine ⟨z0.s, ((hO.blk (.head _)).rdv rfl), ?_⟩
            subst h
            exact hR _ (dr0 (hO))


        · replace h := ifFd w37 h
          refine ⟨fun w42 => ?_, fun w43 => ?_⟩
          · replace h := ifTd w42 h
            refine ⟨z0.n, ((hO.blk (.head _)).rdv rfl), ?_⟩
            refine ⟨fun w44 => ?_, fun w45 => ?_⟩
            · replace h := ifTd w44 h
              refine ⟨z0.n, ((hO.blk (.head _)).rdv rfl), ?_⟩
              refine ⟨fun w46 => ?_, fun w47 => ?_⟩
              · replace h := ifTd w46 h
                refine ⟨z0.s, ((hO.blk (.head _)).rdv rfl), ?_⟩
                subst h
                exact hR _ (dr0 (hO))

              · replace h := ifFd w47 h
                subst h
                exact hR _ (dr0 (hO))


            · replace h := ifFd w45 h
              subst h
              exact hR _ (dr0 (hO))


          · replace h := ifFd w43 h
            subst h
            exact hR _ (dr0 (hO))







theorem c200 (z0 : Int) (r_ : ValT) (h : s200 z0 = r_) (F : List Ent) (H : Heap) (R : Value → Heap → Prop)
    (hO : Own H [] F)
    (hR : ∀ (H' : Heap) , Own H' [] F → R (.agg ⟨encVal r_⟩) H') :
    HCalls Tryz.prog 200 #[I z0] H R := by
  refine vc200 z0 H R ?_
  unfold s200 at h
  intro H21 eH21
  replace hO := own_new (l := encVal (⟨(0 : Int), (0 : Int), ([] : List UInt8)⟩ : ValT)) hO eH21 rfl
  refine ⟨(hO.blk (.head _)).wr (Nat.le_of_ble_eq_true rfl), ?_⟩
  intro H22 eH22
  replace hO := oz0 (l' := encVal (⟨(1 : Int), z0, ([] : List UInt8)⟩ : ValT)) hO eH22 rfl
  refine ⟨(⟨(1 : Int), z0, ([] : List UInt8)⟩ : ValT), (hO.blk (.head _)).rowT rfl, ?_⟩
  subst h
  exact hR _ (dr0 (hO))


theorem c156 (n_ : Nat) (z0 : List UInt8) (r_ : ValT) (h : s156 n_ z0 = some r_) (F : List Ent) (H : Heap) (R : Value → Heap → Prop)
    (hO : Own H [] F)
    (hR : ∀ (H' : Heap) , Own H' [] F → R (.agg ⟨encVal r_⟩) H') :
    HCalls Tryz.prog 156 #[str z0] H R := by
  refine vc156 z0 H R ?_
  unfold s156 at h
  intro H21 eH21
  replace hO := own_new (l := encVal (⟨(0 : Int), (0 : Int), ([] : List UInt8)⟩ : ValT)) hO eH21 rfl
  refine ⟨fun w22 => ?_, fun w23 => ?_⟩
  · replace h := ifTb w22 h
    refine ⟨(hO.blk (.head _)).wr (Nat.le_of_ble_eq_true rfl), ?_⟩
    intro H24 eH24
    replace hO := oz0 (l' := encVal (⟨(0 : Int), (0 : Int), ([] : List UInt8)⟩ : ValT)) hO eH24 rfl
    refine ⟨(⟨(0 : Int), (0 : Int), ([] : List UInt8)⟩ : ValT), (hO.blk (.head _)).rowT rfl, ?_⟩
    obtain rfl := Option.some.inj h
    exact hR _ (dr0 (hO))

  · replace h := ifFb w23 h
    refine ⟨fun l Hc => Own Hc [cellE 94 H.size (encVal (⟨(0 : Int), (0 : Int), ([] : List UInt8)⟩ : ValT))] F ∧ (k156_2 n_ z0 (asI (nth l 0))) = some r_, ?_, ?_⟩
    · obtain ⟨q65, h⟩ := ckS h
      refine ⟨q65.1, q65.2, ?_⟩
      refine ⟨fun w66 => ?_, fun w67 => ?_⟩
      · replace h := ifTd w66 h
        exact ⟨hO, h⟩

      · replace h := ifFd w67 h
        exact ⟨hO, h⟩


    · clear hO h
      intro H25 u26 x27 hJ
      obtain ⟨hO, h⟩ := hJ
      replace h : (k156_2 n_ z0 x27) = some r_ := h
      unfold k156_2 at h
      obtain ⟨q28, h⟩ := ckS h
      refine ⟨q28, ?_⟩
      refine ⟨fun w30 => ?_, fun w29 => ?_⟩
      · replace h := ifFd w30 h
        refine ⟨q28, ?_⟩
        refine ⟨fun w31 => ?_, fun w32 => ?_⟩
        · replace h := ifTd w31 h
          refine ⟨(hO.blk (.head _)).wr (Nat.le_of_ble_eq_true rfl), ?_⟩
          intro H33 eH33
          replace hO := oz0 (l' := encVal (⟨(2 : Int), (0 : Int), z0⟩ : ValT)) hO eH33 rfl
          refine ⟨(⟨(2 : Int), (0 : Int), z0⟩ : ValT), (hO.blk (.head _)).rowT rfl, ?_⟩
          obtain rfl := Option.some.inj h
          exact hR _ (dr0 (hO))

        · replace h := ifFd w32 h
          refine ⟨fun l Hc => ∃ m : Nat, Own Hc [cellE 94 H.size (encVal (⟨(0 : Int), (0 : Int), ([] : List UInt8)⟩ : ValT))] F ∧ (l156_1 n_ z0 x27 m (asI (nth l 0)) (asI (nth l 1))) = some r_, fun l Hc => Classical.epsilon <| lsp fun m => Own Hc [cellE 94 H.size (encVal (⟨(0 : Int), (0 : Int), ([] : List UInt8)⟩ : ValT))] F ∧ (l156_1 n_ z0 x27 m (asI (nth l 0)) (asI (nth l 1))) = some r_, ?_, ?_⟩
          · exact ⟨n_, hO, h⟩
          · clear hO h
            intro H34 u35 x36 x37 hJ
            obtain ⟨m63, hm39, hJ⟩ := lst_get hJ
            obtain ⟨hO, h⟩ := hJ
            rcases m63 with _ | k62
            · exact absurd h (by simp [l156_1, asI, asB, asC, asS])
            obtain ⟨rec38, hrec38, h⟩ : ∃ f_, f_ = l156_1 n_ z0 x27 k62 ∧ (l156_1_st n_ z0 x27 f_ x36 x37) = some r_ := ⟨_, rfl, h⟩
            unfold l156_1_st at h
            refine ⟨fun w40 => ?_, fun w41 => ?_⟩
            · replace h := ifTd w40 h
              obtain ⟨q42, h⟩ := ckS h
              refine ⟨q42.1, q42.2, ?_⟩
              refine ⟨fun w44 => ?_, fun w43 => ?_⟩
              · replace h := ifFd w44 h
                refine ⟨q42.1, q42.2, ?_⟩
                refine ⟨fun w45 => ?_, fun w46 => ?_⟩
                · replace h := ifTd w45 h
                  refine ⟨(hO.blk (.head _)).wr (Nat.le_of_ble_eq_true rfl), ?_⟩
                  intro H47 eH47
                  replace hO := oz0 (l' := encVal (⟨(2 : Int), (0 : Int), z0⟩ : ValT)) hO eH47 rfl
                  refine ⟨(⟨(2 : Int), (0 : Int), z0⟩ : ValT), (hO.blk (.head _)).rowT rfl, ?_⟩
                  obtain rfl := Option.some.inj h
                  exact hR _ (dr0 (hO))

                · replace h := ifFd w46 h
                  obtain ⟨q48, h⟩ := ckS h
                  refine ⟨q48, ?_⟩
                  refine ⟨q42.1, q42.2, ?_⟩
                  obtain ⟨q49, h⟩ := ckS h
                  refine ⟨q49, ?_⟩
                  obtain ⟨q50, h⟩ := ckS h
                  refine ⟨q50, ?_⟩
                  obtain ⟨q51, h⟩ := ckS h
                  refine ⟨_, .inl ⟨q51, rfl⟩, ?_⟩
                  obtain ⟨q52, h⟩ := ckS h
                  refine ⟨_, .inl ⟨q52, rfl⟩, ?_⟩
                  subst hrec38
                  exact lst_step hm39 ⟨hO, h⟩


              · replace h := ifTd w43 h
                refine ⟨(hO.blk (.head _)).wr (Nat.le_of_ble_eq_true rfl), ?_⟩
                intro H53 eH53
                replace hO := oz0 (l' := encVal (⟨(2 : Int), (0 : Int), z0⟩ : ValT)) hO eH53 rfl
                refine ⟨(⟨(2 : Int), (0 : Int), z0⟩ : ValT), (hO.blk (.head _)).rowT rfl, ?_⟩
                obtain rfl := Option.some.inj h
                exact hR _ (dr0 (hO))


            · replace h := ifFd w41 h
              refine ⟨fun l Hc => Own Hc [cellE 94 H.size (encVal (⟨(0 : Int), (0 : Int), ([] : List UInt8)⟩ : ValT))] F ∧ (k156_0 (asI (nth l 0))) = some r_, ?_, ?_⟩
              · refine ⟨fun w59 => ?_, fun w60 => ?_⟩
                · replace h := ifTd w59 h
                  obtain ⟨q61, h⟩ := ckS h
                  refine ⟨q61, ?_⟩
                  exact ⟨hO, h⟩

                · replace h := ifFd w60 h
                  exact ⟨hO, h⟩


              · clear hO h
                intro H54 u55 x56 hJ
                obtain ⟨hO, h⟩ := hJ
                replace h : (k156_0 x56) = some r_ := h
                unfold k156_0 at h
                refine c200 x56 _ rfl _ _ _ (fr0 hO) (fun H57 hO => ?_)
                replace hO := un0 hO
                refine ⟨(s200 x56), rfl, ?_⟩
                refine ⟨(hO.blk (.head _)).wr (Nat.le_of_ble_eq_true rfl), ?_⟩
                intro H58 eH58
                replace hO := oz0 (l' := encVal (s200 x56)) hO eH58 rfl
                refine ⟨(s200 x56), (hO.blk (.head _)).rowT rfl, ?_⟩
                obtain rfl := Option.some.inj h
                exact hR _ (dr0 (hO))





      · replace h := ifTd w29 h
        refine ⟨(hO.blk (.head _)).wr (Nat.le_of_ble_eq_true rfl), ?_⟩
        intro H64 eH64
        replace hO := oz0 (l' := encVal (⟨(2 : Int), (0 : Int), z0⟩ : ValT)) hO eH64 rfl
        refine ⟨(⟨(2 : Int), (0 : Int), z0⟩ : ValT), (hO.blk (.head _)).rowT rfl, ?_⟩
        obtain rfl := Option.some.inj h
        exact hR _ (dr0 (hO))





theorem c202 (z0 : Nat) (L0 : VL) (S0 : VS) (r_ : VS × ValT) (h : s202 S0 = some r_) (F : List Ent) (H : Heap) (R : Value → Heap → Prop)
    (hO : Own H [oV z0 L0 S0] F)
    (hR : ∀ (H' : Heap) , Own H' [oV z0 L0 r_.1] F → R (.agg ⟨encVal r_.2⟩) H') :
    HCalls Tryz.prog 202 #[Value.pointer (some ⟨z0, 0, none⟩)] H R := by
  refine vc202 z0 H R ?_
  unfold s202 at h
  intro H21 eH21
  replace hO := own_new (l := encVal (⟨(0 : Int), (0 : Int), ([] : List UInt8)⟩ : ValT)) hO eH21 rfl
  replace hO := open_V (pu1 hO)
  refine ⟨S0.top, ((hO.blk (.head _)).rdv rfl), ?_⟩
  obtain ⟨q22, h⟩ := ckS h
  refine ⟨q22, ?_⟩
  refine ⟨(hO.blk (.head _)).wr (Nat.le_of_ble_eq_true rfl), ?_⟩
  intro H23 eH23
  replace hO := os0 (l' := [Value.pointer (some ⟨L0.f, 0, none⟩), Value.slice (some ⟨L0.code, 0, none⟩) 48 48, I S0.start, Value.int .u32 (S0.cells.toNat : Int), Value.slice (some ⟨L0.owner, 0, none⟩) 24 24, Value.slice (some ⟨L0.stack, 0, none⟩) 24 24, I (S0.top - (1 : Int)), Value.slice (some ⟨L0.folds, 0, none⟩) 24 24, I S0.deep]) hO eH23 rfl
  refine ⟨(some ⟨L0.stack, 0, none⟩), 24, 24, ((hO.blk (.head _)).rdv rfl), ?_⟩
  refine ⟨(S0.top - (1 : Int)), ((hO.blk (.head _)).rdv rfl), ?_⟩
  obtain ⟨x24, g25, h⟩ := getS h
  refine ⟨_, _, rfl, g25.1, g25.2.1, rfl, ?_⟩
  refine ⟨x24, (hO.arr (.tail _ (.tail _ (.tail _ (.tail _ (.head _)))))).row (i := Int.toNat (S0.top - (1 : Int))) lenVal g25.2.2 (Nat.zero_add _), ?_⟩
  refine ⟨(hO.blk (.tail _ (.tail _ (.tail _ (.tail _ (.tail _ (.tail _ (.head _)))))))).wr (Nat.le_of_ble_eq_true rfl), ?_⟩
  intro H26 eH26
  replace hO := oz6 (l' := encVal x24) hO eH26 rfl
  refine ⟨x24, (hO.blk (.tail _ (.tail _ (.tail _ (.tail _ (.tail _ (.tail _ (.head _)))))))).rowT rfl, ?_⟩
  replace hO := close_V L0 ({ S0 with top := S0.top - (1 : Int) }) (hO)
  obtain rfl := Option.some.inj h
  exact hR _ (dr1 (hO))


theorem c219 (z0 : Nat) (L0 : VL) (S0 : VS) (z1 : ValT) (r_ : VS) (h : s219 S0 z1 = some r_) (F : List Ent) (H : Heap) (R : Value → Heap → Prop)
    (hO : Own H [oV z0 L0 S0] F)
    (hR : ∀ (H' : Heap) , Own H' [oV z0 L0 r_] F → R (.tuple #[]) H') :
    HCalls Tryz.prog 219 #[Value.pointer (some ⟨z0, 0, none⟩), Value.agg ⟨encVal z1⟩] H R := by
  refine vc219 z0 z1 H R ?_
  unfold s219 at h
  intro H21 eH21
  replace hO := own_new (l := encVal z1) hO eH21 rfl
  replace hO := open_V (pu1 hO)
  refine ⟨(some ⟨L0.stack, 0, none⟩), 24, 24, ((hO.blk (.head _)).rdv rfl), ?_⟩
  refine ⟨S0.top, ((hO.blk (.head _)).rdv rfl), ?_⟩
  refine ⟨z1, (hO.blk (.tail _ (.tail _ (.tail _ (.tail _ (.tail _ (.tail _ (.head _)))))))).rowT rfl, ?_⟩
  obtain ⟨x22, g23, h⟩ := getS h
  refine ⟨_, _, rfl, g23.1, g23.2.1, rfl, ?_⟩
  refine ⟨((hO.arr (.tail _ (.tail _ (.tail _ (.tail _ (.head _)))))).wr1 lenVal (i := Int.toNat S0.top) (j := 0) (getLt g23.2.2) (Nat.le_of_ble_eq_true rfl) (zo0 _)), ?_⟩
  intro H24 eH24
  replace hO := oz4 (l' := List.flatMap encVal (List.set S0.stack (Int.toNat S0.top) z1)) hO eH24 (flat_put1 lenVal (i := Int.toNat S0.top) (x := z1) (getLt g23.2.2) (Nat.zero_add _))
  refine ⟨S0.top, ((hO.blk (.head _)).rdv rfl), ?_⟩
  obtain ⟨q25, h⟩ := ckS h
  refine ⟨_, .inl ⟨q25, rfl⟩, ?_⟩
  refine ⟨(hO.blk (.head _)).wr (Nat.le_of_ble_eq_true rfl), ?_⟩
  intro H26 eH26
  replace hO := os0 (l' := [Value.pointer (some ⟨L0.f, 0, none⟩), Value.slice (some ⟨L0.code, 0, none⟩) 48 48, I S0.start, Value.int .u32 (S0.cells.toNat : Int), Value.slice (some ⟨L0.owner, 0, none⟩) 24 24, Value.slice (some ⟨L0.stack, 0, none⟩) 24 24, I (S0.top + (1 : Int)), Value.slice (some ⟨L0.folds, 0, none⟩) 24 24, I S0.deep]) hO eH26 rfl
  replace hO := close_V L0 ({ S0 with stack := (List.set S0.stack (Int.toNat S0.top) z1), top := S0.top + (1 : Int) }) (hO)
  obtain rfl := Option.some.inj h
  exact hR _ (dr1 (hO))


theorem c232 (z0 : Bool) (r_ : ValT) (h : s232 z0 = r_) (F : List Ent) (H : Heap) (R : Value → Heap → Prop)
    (hO : Own H [] F)
    (hR : ∀ (H' : Heap) , Own H' [] F → R (.agg ⟨encVal r_⟩) H') :
    HCalls Tryz.prog 232 #[Value.bool z0] H R := by
  refine vc232 z0 H R ?_
  unfold s232 at h
  intro H21 eH21
  replace hO := own_new (l := encVal (⟨(0 : Int), (0 : Int), ([] : List UInt8)⟩ : ValT)) hO eH21 rfl
  refine ⟨fun w22 => ?_, fun w23 => ?_⟩
  · replace h := ifTb w22 h
    refine ⟨(hO.blk (.head _)).wr (Nat.le_of_ble_eq_true rfl), ?_⟩
    intro H24 eH24
    replace hO := oz0 (l' := encVal (⟨(3 : Int), (1 : Int), ([] : List UInt8)⟩ : ValT)) hO eH24 rfl
    refine ⟨(⟨(3 : Int), (1 : Int), ([] : List UInt8)⟩ : ValT), (hO.blk (.head _)).rowT rfl, ?_⟩
    subst h
    exact hR _ (dr0 (hO))

  · replace h := ifFb w23 h
    refine ⟨(hO.blk (.head _)).wr (Nat.le_of_ble_eq_true rfl), ?_⟩
    intro H25 eH25
    replace hO := oz0 (l' := encVal (⟨(3 : Int), (0 : Int), ([] : List UInt8)⟩ : ValT)) hO eH25 rfl
    refine ⟨(⟨(3 : Int), (0 : Int), ([] : List UInt8)⟩ : ValT), (hO.blk (.head _)).rowT rfl, ?_⟩
    subst h
    exact hR _ (dr0 (hO))



theorem c233 (z0 : ValT) (r_ : Bool) (h : s233 z0 = r_) (F : List Ent) (H : Heap) (R : Value → Heap → Prop)
    (hO : Own H [] F)
    (hR : ∀ (H' : Heap) , Own H' [] F → R (.bool r_) H') :
    HCalls Tryz.prog 233 #[Value.agg ⟨encVal z0⟩] H R := by
  refine vc233 z0 H R ?_
  unfold s233 at h
  intro H21 eH21
  replace hO := own_new (l := encVal z0) hO eH21 rfl
  refine ⟨z0.kind, ((hO.blk (.head _)).rdv rfl), ?_⟩
  refine ⟨fun w23 => ?_, fun w22 => ?_⟩
  · replace h := ifFd w23 h
    refine ⟨z0.kind, ((hO.blk (.head _)).rdv rfl), ?_⟩
    subst h
    exact hR _ (dr0 (hO))

  · replace h := ifTd w22 h
    subst h
    exact hR _ (dr0 (hO))



theorem c234 (z0 : ValT) (r_ : Bool) (h : s234 z0 = r_) (F : List Ent) (H : Heap) (R : Value → Heap → Prop)
    (hO : Own H [] F)
    (hR : ∀ (H' : Heap) , Own H' [] F → R (.bool r_) H') :
    HCalls Tryz.prog 234 #[Value.agg ⟨encVal z0⟩] H R := by
  refine vc234 z0 H R ?_
  unfold s234 at h
  intro H21 eH21
  replace hO := own_new (l := encVal z0) hO eH21 rfl
  refine ⟨z0.kind, ((hO.blk (.head _)).rdv rfl), ?_⟩
  refine ⟨fun w23 => ?_, fun w22 => ?_⟩
  · replace h := ifFd w23 h
    refine ⟨z0.kind, ((hO.blk (.head _)).rdv rfl), ?_⟩
    subst h
    exact hR _ (dr0 (hO))

  · replace h := ifTd w22 h
    subst h
    exact hR _ (dr0 (hO))



theorem c235 (z0 : ValT) (r_ : Int) (h : s235 z0 = r_) (F : List Ent) (H : Heap) (R : Value → Heap → Prop)
    (hO : Own H [] F)
    (hR : ∀ (H' : Heap) , Own H' [] F → R (I r_) H') :
    HCalls Tryz.prog 235 #[Value.agg ⟨encVal z0⟩] H R := by
  refine vc235 z0 H R ?_
  unfold s235 at h
  intro H21 eH21
  replace hO := own_new (l := encVal z0) hO eH21 rfl
  refine ⟨z0.kind, ((hO.blk (.head _)).rdv rfl), ?_⟩
  refine ⟨fun w22 => ?_, fun w23 => ?_⟩
  · replace h := ifTd w22 h
    refine ⟨z0.n, ((hO.blk (.head _)).rdv rfl), ?_⟩
    subst h
    exact hR _ (dr0 (hO))

  · replace h := ifFd w23 h
    subst h
    exact hR _ (dr0 (hO))



theorem c220 (z0 : Int) (z1 : ValT) (r_ : ValT) (h : s220 z0 z1 = some r_) (F : List Ent) (H : Heap) (R : Value → Heap → Prop)
    (hO : Own H [] F)
    (hR : ∀ (H' : Heap) , Own H' [] F → R (.agg ⟨encVal r_⟩) H') :
    HCalls Tryz.prog 220 #[I z0, Value.agg ⟨encVal z1⟩] H R := by
  refine vc220 z0 z1 H R ?_
  unfold s220 at h
  intro H21 eH21
  replace hO := own_new (l := encVal z1) hO eH21 rfl
  intro H22 eH22
  replace hO := own_new (l := encVal (⟨(0 : Int), (0 : Int), ([] : List UInt8)⟩ : ValT)) hO eH22 rfl
  refine ⟨z1.kind, ((hO.blk (.tail _ (.head _))).rdv rfl), ?_⟩
  refine ⟨fun w23 => ?_, fun w24 => ?_⟩
  · replace h := ifTd w23 h
    refine ⟨z1, (hO.blk (.tail _ (.head _))).rowT rfl, ?_⟩
    refine ⟨(hO.blk (.head _)).wr (Nat.le_of_ble_eq_true rfl), ?_⟩
    intro H25 eH25
    replace hO := oz0 (l' := encVal z1) hO eH25 rfl
    refine ⟨z1, (hO.blk (.head _)).rowT rfl, ?_⟩
    obtain rfl := Option.some.inj h
    exact hR _ (dr0 (dr0 (hO)))

  · replace h := ifFd w24 h
    refine ⟨fun w26 => ?_, fun w27 => ?_⟩
    · replace h := ifTd w26 h
      refine ⟨z1.kind, ((hO.blk (.tail _ (.head _))).rdv rfl), ?_⟩
      refine ⟨fun w28 => ?_, fun w29 => ?_⟩
      · replace w28 := bnotT w28
        replace h := ifFd w28 h
        refine c131 (5 : Int) _ rfl _ _ _ (fr0 hO) (fun H30 hO => ?_)
        replace hO := un0 hO
        refine ⟨(s131 (5 : Int)), rfl, ?_⟩
        refine ⟨(hO.blk (.head _)).wr (Nat.le_of_ble_eq_true rfl), ?_⟩
        intro H31 eH31
        replace hO := oz0 (l' := encVal (s131 (5 : Int))) hO eH31 rfl
        refine ⟨(s131 (5 : Int)), (hO.blk (.head _)).rowT rfl, ?_⟩
        obtain rfl := Option.some.inj h
        exact hR _ (dr0 (dr0 (hO)))

      · replace w29 := bnotF w29
        replace h := ifTd w29 h
        refine ⟨z1.n, ((hO.blk (.tail _ (.head _))).rdv rfl), ?_⟩
        refine c232 (decide (z1.n = (0 : Int))) _ rfl _ _ _ (fr0 hO) (fun H32 hO => ?_)
        replace hO := un0 hO
        refine ⟨(s232 (decide (z1.n = (0 : Int)))), rfl, ?_⟩
        refine ⟨(hO.blk (.head _)).wr (Nat.le_of_ble_eq_true rfl), ?_⟩
        intro H33 eH33
        replace hO := oz0 (l' := encVal (s232 (decide (z1.n = (0 : Int))))) hO eH33 rfl
        refine ⟨(s232 (decide (z1.n = (0 : Int)))), (hO.blk (.head _)).rowT rfl, ?_⟩
        obtain rfl := Option.some.inj h
        exact hR _ (dr0 (dr0 (hO)))


    · replace h := ifFd w27 h
      refine ⟨fun w34 => ?_, fun w35 => ?_⟩
      · replace h := ifTd w34 h
        refine ⟨z1, (hO.blk (.tail _ (.head _))).rowT rfl, ?_⟩
        refine c233 z1 _ rfl _ _ _ (fr0 hO) (fun H36 hO => ?_)
        replace hO := un0 hO
        refine ⟨(s233 z1), rfl, ?_⟩
        refine ⟨fun w37 => ?_, fun w38 => ?_⟩
        · replace w37 := bnotT w37
          replace h := ifFb w37 h
          refine c131 (5 : Int) _ rfl _ _ _ (fr0 hO) (fun H39 hO => ?_)
          replace hO := un0 hO
          refine ⟨(s131 (5 : Int)), rfl, ?_⟩
          refine ⟨(hO.blk (.head _)).wr (Nat.le_of_ble_eq_true rfl), ?_⟩
          intro H40 eH40
          replace hO := oz0 (l' := encVal (s131 (5 : Int))) hO eH40 rfl
          refine ⟨(s131 (5 : Int)), (hO.blk (.head _)).rowT rfl, ?_⟩
          obtain rfl := Option.some.inj h
          exact hR _ (dr0 (dr0 (hO)))

        · replace w38 := bnotF w38
          replace h := ifTb w38 h
          refine ⟨z1.s, ((hO.blk (.tail _ (.head _))).rdv rfl), ?_⟩
          refine c200 (z1.s.length : Int) _ rfl _ _ _ (fr0 hO) (fun H41 hO => ?_)
          replace hO := un0 hO
          refine ⟨(s200 (z1.s.length : Int)), rfl, ?_⟩
          refine ⟨(hO.blk (.head _)).wr (Nat.le_of_ble_eq_true rfl), ?_⟩
          intro H42 eH42
          replace hO := oz0 (l' := encVal (s200 (z1.s.length : Int))) hO eH42 rfl
          refine ⟨(s200 (z1.s.length : Int)), (hO.blk (.head _)).rowT rfl, ?_⟩
          obtain rfl := Option.some.inj h
          exact hR _ (dr0 (dr0 (hO)))


      · replace h := ifFd w35 h
        refine ⟨z1, (hO.blk (.tail _ (.head _))).rowT rfl, ?_⟩
        refine c234 z1 _ rfl _ _ _ (fr0 hO) (fun H43 hO => ?_)
        replace hO := un0 hO
        refine ⟨(s234 z1), rfl, ?_⟩
        refine ⟨fun w44 => ?_, fun w45 => ?_⟩
        · replace w44 := bnotT w44
          replace h := ifFb w44 h
          refine c131 (5 : Int) _ rfl _ _ _ (fr0 hO) (fun H46 hO => ?_)
          replace hO := un0 hO
          refine ⟨(s131 (5 : Int)), rfl, ?_⟩
          refine ⟨(hO.blk (.head _)).wr (Nat.le_of_ble_eq_true rfl), ?_⟩
          intro H47 eH47
          replace hO := oz0 (l' := encVal (s131 (5 : Int))) hO eH47 rfl
          refine ⟨(s131 (5 : Int)), (hO.blk (.head _)).rowT rfl, ?_⟩
          obtain rfl := Option.some.inj h
          exact hR _ (dr0 (dr0 (hO)))

        · replace w45 := bnotF w45
          replace h := ifTb w45 h
          refine ⟨z1, (hO.blk (.tail _ (.head _))).rowT rfl, ?_⟩
          refine c235 z1 _ rfl _ _ _ (fr0 hO) (fun H48 hO => ?_)
          replace hO := un0 hO
          refine ⟨(s235 z1), rfl, ?_⟩
          refine ⟨fun w49 => ?_, fun w50 => ?_⟩
          · replace h := ifTd w49 h
            refine ⟨fun w51 => ?_, fun w52 => ?_⟩
            · replace h := ifTd w51 h
              refine c200 (s235 z1) _ rfl _ _ _ (fr0 hO) (fun H53 hO => ?_)
              replace hO := un0 hO
              refine ⟨(s200 (s235 z1)), rfl, ?_⟩
              refine ⟨(hO.blk (.head _)).wr (Nat.le_of_ble_eq_true rfl), ?_⟩
              intro H54 eH54
              replace hO := oz0 (l' := encVal (s200 (s235 z1))) hO eH54 rfl
              refine ⟨(s200 (s235 z1)), (hO.blk (.head _)).rowT rfl, ?_⟩
              obtain rfl := Option.some.inj h
              exact hR _ (dr0 (dr0 (hO)))

            · replace h := ifFd w52 h
              obtain ⟨q55, h⟩ := ckS h
              refine ⟨q55, ?_⟩
              refine c200 (-(s235 z1)) _ rfl _ _ _ (fr0 hO) (fun H56 hO => ?_)
              replace hO := un0 hO
              refine ⟨(s200 (-(s235 z1))), rfl, ?_⟩
              refine ⟨(hO.blk (.head _)).wr (Nat.le_of_ble_eq_true rfl), ?_⟩
              intro H57 eH57
              replace hO := oz0 (l' := encVal (s200 (-(s235 z1)))) hO eH57 rfl
              refine ⟨(s200 (-(s235 z1))), (hO.blk (.head _)).rowT rfl, ?_⟩
              obtain rfl := Option.some.inj h
              exact hR _ (dr0 (dr0 (hO)))


          · replace h := ifFd w50 h
            obtain ⟨q58, h⟩ := ckS h
            refine ⟨q58, ?_⟩
            refine c200 (-(s235 z1)) _ rfl _ _ _ (fr0 hO) (fun H59 hO => ?_)
            replace hO := un0 hO
            refine ⟨(s200 (-(s235 z1))), rfl, ?_⟩
            refine ⟨(hO.blk (.head _)).wr (Nat.le_of_ble_eq_true rfl), ?_⟩
            intro H60 eH60
            replace hO := oz0 (l' := encVal (s200 (-(s235 z1)))) hO eH60 rfl
            refine ⟨(s200 (-(s235 z1))), (hO.blk (.head _)).rowT rfl, ?_⟩
            obtain rfl := Option.some.inj h
            exact hR _ (dr0 (dr0 (hO)))







theorem c238 (z0 : Int) (r_ : ValT) (h : s238 z0 = r_) (F : List Ent) (H : Heap) (R : Value → Heap → Prop)
    (hO : Own H [] F)
    (hR : ∀ (H' : Heap) , Own H' [] F → R (.agg ⟨encVal r_⟩) H') :
    HCalls Tryz.prog 238 #[I z0] H R := by
  refine vc238 z0 H R ?_
  unfold s238 at h
  intro H21 eH21
  replace hO := own_new (l := encVal (⟨(0 : Int), (0 : Int), ([] : List UInt8)⟩ : ValT)) hO eH21 rfl
  refine ⟨fun w23 => ?_, fun w22 => ?_⟩
  · replace h := ifFd w23 h
    refine ⟨fun w24 => ?_, fun w25 => ?_⟩
    · replace h := ifTd w24 h
      refine c131 (4 : Int) _ rfl _ _ _ (fr0 hO) (fun H26 hO => ?_)
      replace hO := un0 hO
      refine ⟨(s131 (4 : Int)), rfl, ?_⟩
      refine ⟨(hO.blk (.head _)).wr (Nat.le_of_ble_eq_true rfl), ?_⟩
      intro H27 eH27
      replace hO := oz0 (l' := encVal (s131 (4 : Int))) hO eH27 rfl
      refine ⟨(s131 (4 : Int)), (hO.blk (.head _)).rowT rfl, ?_⟩
      subst h
      exact hR _ (dr0 (hO))

    · replace h := ifFd w25 h
      refine c200 z0 _ rfl _ _ _ (fr0 hO) (fun H28 hO => ?_)
      replace hO := un0 hO
      refine ⟨(s200 z0), rfl, ?_⟩
      refine ⟨(hO.blk (.head _)).wr (Nat.le_of_ble_eq_true rfl), ?_⟩
      intro H29 eH29
      replace hO := oz0 (l' := encVal (s200 z0)) hO eH29 rfl
      refine ⟨(s200 z0), (hO.blk (.head _)).rowT rfl, ?_⟩
      subst h
      exact hR _ (dr0 (hO))


  · replace h := ifTd w22 h
    refine c131 (4 : Int) _ rfl _ _ _ (fr0 hO) (fun H30 hO => ?_)
    replace hO := un0 hO
    refine ⟨(s131 (4 : Int)), rfl, ?_⟩
    refine ⟨(hO.blk (.head _)).wr (Nat.le_of_ble_eq_true rfl), ?_⟩
    intro H31 eH31
    replace hO := oz0 (l' := encVal (s131 (4 : Int))) hO eH31 rfl
    refine ⟨(s131 (4 : Int)), (hO.blk (.head _)).rowT rfl, ?_⟩
    subst h
    exact hR _ (dr0 (hO))



theorem c236 (z0 : Int) (z1 : Int) (z2 : Int) (r_ : ValT) (h : s236 z0 z1 z2 = some r_) (F : List Ent) (H : Heap) (R : Value → Heap → Prop)
    (hO : Own H [] F)
    (hR : ∀ (H' : Heap) , Own H' [] F → R (.agg ⟨encVal r_⟩) H') :
    HCalls Tryz.prog 236 #[I z0, I z1, I z2] H R := by
  refine vc236 z0 z1 z2 H R ?_
  unfold s236 at h
  intro H21 eH21
  replace hO := own_new (l := encVal (⟨(0 : Int), (0 : Int), ([] : List UInt8)⟩ : ValT)) hO eH21 rfl
  refine ⟨fun w22 => ?_, fun w23 => ?_⟩
  · replace h := ifTd w22 h
    obtain ⟨q24, h⟩ := ckS h
    refine ⟨_, .inl ⟨q24, rfl⟩, ?_⟩
    refine c238 (z1 + z2) _ rfl _ _ _ (fr0 hO) (fun H25 hO => ?_)
    replace hO := un0 hO
    refine ⟨(s238 (z1 + z2)), rfl, ?_⟩
    refine ⟨(hO.blk (.head _)).wr (Nat.le_of_ble_eq_true rfl), ?_⟩
    intro H26 eH26
    replace hO := oz0 (l' := encVal (s238 (z1 + z2))) hO eH26 rfl
    refine ⟨(s238 (z1 + z2)), (hO.blk (.head _)).rowT rfl, ?_⟩
    obtain rfl := Option.some.inj h
    exact hR _ (dr0 (hO))

  · replace h := ifFd w23 h
    refine ⟨fun w27 => ?_, fun w28 => ?_⟩
    · replace h := ifTd w27 h
      obtain ⟨q29, h⟩ := ckS h
      refine ⟨q29, ?_⟩
      refine c238 (z1 - z2) _ rfl _ _ _ (fr0 hO) (fun H30 hO => ?_)
      replace hO := un0 hO
      refine ⟨(s238 (z1 - z2)), rfl, ?_⟩
      refine ⟨(hO.blk (.head _)).wr (Nat.le_of_ble_eq_true rfl), ?_⟩
      intro H31 eH31
      replace hO := oz0 (l' := encVal (s238 (z1 - z2))) hO eH31 rfl
      refine ⟨(s238 (z1 - z2)), (hO.blk (.head _)).rowT rfl, ?_⟩
      obtain rfl := Option.some.inj h
      exact hR _ (dr0 (hO))

    · replace h := ifFd w28 h
      refine ⟨fun w32 => ?_, fun w33 => ?_⟩
      · replace h := ifTd w32 h
        obtain ⟨q34, h⟩ := ckS h
        refine ⟨q34, ?_⟩
        refine c238 (z1 * z2) _ rfl _ _ _ (fr0 hO) (fun H35 hO => ?_)
        replace hO := un0 hO
        refine ⟨(s238 (z1 * z2)), rfl, ?_⟩
        refine ⟨(hO.blk (.head _)).wr (Nat.le_of_ble_eq_true rfl), ?_⟩
        intro H36 eH36
        replace hO := oz0 (l' := encVal (s238 (z1 * z2))) hO eH36 rfl
        refine ⟨(s238 (z1 * z2)), (hO.blk (.head _)).rowT rfl, ?_⟩
        obtain rfl := Option.some.inj h
        exact hR _ (dr0 (hO))

      · replace h := ifFd w33 h
        refine ⟨fun w37 => ?_, fun w38 => ?_⟩
        · replace h := ifTd w37 h
          refine c131 (3 : Int) _ rfl _ _ _ (fr0 hO) (fun H39 hO => ?_)
          replace hO := un0 hO
          refine ⟨(s131 (3 : Int)), rfl, ?_⟩
          refine ⟨(hO.blk (.head _)).wr (Nat.le_of_ble_eq_true rfl), ?_⟩
          intro H40 eH40
          replace hO := oz0 (l' := encVal (s131 (3 : Int))) hO eH40 rfl
          refine ⟨(s131 (3 : Int)), (hO.blk (.head _)).rowT rfl, ?_⟩
          obtain rfl := Option.some.inj h
          exact hR _ (dr0 (hO))

        · replace h := ifFd w38 h
          obtain ⟨q41, h⟩ := ckS h
          obtain ⟨q42, h⟩ := ckS h
          refine ⟨q41, q42, ?_⟩
          refine c238 (Int.tdiv z1 z2) _ rfl _ _ _ (fr0 hO) (fun H43 hO => ?_)
          replace hO := un0 hO
          refine ⟨(s238 (Int.tdiv z1 z2)), rfl, ?_⟩
          refine ⟨(hO.blk (.head _)).wr (Nat.le_of_ble_eq_true rfl), ?_⟩
          intro H44 eH44
          replace hO := oz0 (l' := encVal (s238 (Int.tdiv z1 z2))) hO eH44 rfl
          refine ⟨(s238 (Int.tdiv z1 z2)), (hO.blk (.head _)).rowT rfl, ?_⟩
          obtain rfl := Option.some.inj h
          exact hR _ (dr0 (hO))






theorem c237 (z0 : Int) (z1 : Int) (r_ : ValT) (h : s237 z0 z1 = r_) (F : List Ent) (H : Heap) (R : Value → Heap → Prop)
    (hO : Own H [] F)
    (hR : ∀ (H' : Heap) , Own H' [] F → R (.agg ⟨encVal r_⟩) H') :
    HCalls Tryz.prog 237 #[I z0, I z1] H R := by
  refine vc237 z0 z1 H R ?_
  unfold s237 at h
  intro H21 eH21
  replace hO := own_new (l := encVal (⟨(0 : Int), (0 : Int), ([] : List UInt8)⟩ : ValT)) hO eH21 rfl
  refine ⟨fun w22 => ?_, fun w23 => ?_⟩
  · replace h := ifTd w22 h
    refine c232 (decide (z1 = (0 : Int))) _ rfl _ _ _ (fr0 hO) (fun H24 hO => ?_)
    replace hO := un0 hO
    refine ⟨(s232 (decide (z1 = (0 : Int)))), rfl, ?_⟩
    refine ⟨(hO.blk (.head _)).wr (Nat.le_of_ble_eq_true rfl), ?_⟩
    intro H25 eH25
    replace hO := oz0 (l' := encVal (s232 (decide (z1 = (0 : Int))))) hO eH25 rfl
    refine ⟨(s232 (decide (z1 = (0 : Int)))), (hO.blk (.head _)).rowT rfl, ?_⟩
    subst h
    exact hR _ (dr0 (hO))

  · replace h := ifFd w23 h
    refine ⟨fun w26 => ?_, fun w27 => ?_⟩
    · replace h := ifTd w26 h
      refine c232 (!decide (z1 = (0 : Int))) _ rfl _ _ _ (fr0 hO) (fun H28 hO => ?_)
      replace hO := un0 hO
      refine ⟨(s232 (!decide (z1 = (0 : Int)))), rfl, ?_⟩
      refine ⟨(hO.blk (.head _)).wr (Nat.le_of_ble_eq_true rfl), ?_⟩
      intro H29 eH29
      replace hO := oz0 (l' := encVal (s232 (!decide (z1 = (0 : Int))))) hO eH29 rfl
      refine ⟨(s232 (!decide (z1 = (0 : Int)))), (hO.blk (.head _)).rowT rfl, ?_⟩
      subst h
      exact hR _ (dr0 (hO))

    · replace h := ifFd w27 h
      refine ⟨fun w30 => ?_, fun w31 => ?_⟩
      · replace h := ifTd w30 h
        refine c232 (decide (z1 < (0 : Int))) _ rfl _ _ _ (fr0 hO) (fun H32 hO => ?_)
        replace hO := un0 hO
        refine ⟨(s232 (decide (z1 < (0 : Int)))), rfl, ?_⟩
        refine ⟨(hO.blk (.head _)).wr (Nat.le_of_ble_eq_true rfl), ?_⟩
        intro H33 eH33
        replace hO := oz0 (l' := encVal (s232 (decide (z1 < (0 : Int))))) hO eH33 rfl
        refine ⟨(s232 (decide (z1 < (0 : Int)))), (hO.blk (.head _)).rowT rfl, ?_⟩
        subst h
        exact hR _ (dr0 (hO))

      · replace h := ifFd w31 h
        refine ⟨fun w34 => ?_, fun w35 => ?_⟩
        · replace h := ifTd w34 h
          refine c232 (decide (z1 ≤ (0 : Int))) _ rfl _ _ _ (fr0 hO) (fun H36 hO => ?_)
          replace hO := un0 hO
          refine ⟨(s232 (decide (z1 ≤ (0 : Int)))), rfl, ?_⟩
          refine ⟨(hO.blk (.head _)).wr (Nat.le_of_ble_eq_true rfl), ?_⟩
          intro H37 eH37
          replace hO := oz0 (l' := encVal (s232 (decide (z1 ≤ (0 : Int))))) hO eH37 rfl
          refine ⟨(s232 (decide (z1 ≤ (0 : Int)))), (hO.blk (.head _)).rowT rfl, ?_⟩
          subst h
          exact hR _ (dr0 (hO))

        · replace h := ifFd w35 h
          refine ⟨fun w38 => ?_, fun w39 => ?_⟩
          · replace h := ifTd w38 h
            refine c232 (decide ((0 : Int) < z1)) _ rfl _ _ _ (fr0 hO) (fun H40 hO => ?_)
            replace hO := un0 hO
            refine ⟨(s232 (decide ((0 : Int) < z1))), rfl, ?_⟩
            refine ⟨(hO.blk (.head _)).wr (Nat.le_of_ble_eq_true rfl), ?_⟩
            intro H41 eH41
            replace hO := oz0 (l' := encVal (s232 (decide ((0 : Int) < z1)))) hO eH41 rfl
            refine ⟨(s232 (decide ((0 : Int) < z1))), (hO.blk (.head _)).rowT rfl, ?_⟩
            subst h
            exact hR _ (dr0 (hO))

          · replace h := ifFd w39 h
            refine c232 (decide ((0 : Int) ≤ z1)) _ rfl _ _ _ (fr0 hO) (fun H42 hO => ?_)
            replace hO := un0 hO
            refine ⟨(s232 (decide ((0 : Int) ≤ z1))), rfl, ?_⟩
            refine ⟨(hO.blk (.head _)).wr (Nat.le_of_ble_eq_true rfl), ?_⟩
            intro H43 eH43
            replace hO := oz0 (l' := encVal (s232 (decide ((0 : Int) ≤ z1)))) hO eH43 rfl
            refine ⟨(s232 (decide ((0 : Int) ≤ z1))), (hO.blk (.head _)).rowT rfl, ?_⟩
            subst h
            exact hR _ (dr0 (hO))







theorem c221 (z0 : Int) (z1 : ValT) (z2 : ValT) (r_ : ValT) (h : s221 z0 z1 z2 = some r_) (F : List Ent) (H : Heap) (R : Value → Heap → Prop)
    (hO : Own H [] F)
    (hR : ∀ (H' : Heap) , Own H' [] F → R (.agg ⟨encVal r_⟩) H') :
    HCalls Tryz.prog 221 #[I z0, Value.agg ⟨encVal z1⟩, Value.agg ⟨encVal z2⟩] H R := by
  refine vc221 z0 z1 z2 H R ?_
  unfold s221 at h
  intro H21 eH21
  replace hO := own_new (l := encVal z1) hO eH21 rfl
  intro H22 eH22
  replace hO := own_new (l := encVal z2) hO eH22 rfl
  intro H23 eH23
  replace hO := own_new (l := encVal (⟨(0 : Int), (0 : Int), ([] : List UInt8)⟩ : ValT)) hO eH23 rfl
  refine ⟨z1.kind, ((hO.blk (.tail _ (.tail _ (.head _)))).rdv rfl), ?_⟩
  refine ⟨fun w24 => ?_, fun w25 => ?_⟩
  · replace h := ifTd w24 h
    refine ⟨z1, (hO.blk (.tail _ (.tail _ (.head _)))).rowT rfl, ?_⟩
    refine ⟨(hO.blk (.head _)).wr (Nat.le_of_ble_eq_true rfl), ?_⟩
    intro H26 eH26
    replace hO := oz0 (l' := encVal z1) hO eH26 rfl
    refine ⟨z1, (hO.blk (.head _)).rowT rfl, ?_⟩
    obtain rfl := Option.some.inj h
    exact hR _ (dr0 (dr0 (dr0 (hO))))

  · replace h := ifFd w25 h
    refine ⟨z2.kind, ((hO.blk (.tail _ (.head _))).rdv rfl), ?_⟩
    refine ⟨fun w27 => ?_, fun w28 => ?_⟩
    · replace h := ifTd w27 h
      refine ⟨z2, (hO.blk (.tail _ (.head _))).rowT rfl, ?_⟩
      refine ⟨(hO.blk (.head _)).wr (Nat.le_of_ble_eq_true rfl), ?_⟩
      intro H29 eH29
      replace hO := oz0 (l' := encVal z2) hO eH29 rfl
      refine ⟨z2, (hO.blk (.head _)).rowT rfl, ?_⟩
      obtain rfl := Option.some.inj h
      exact hR _ (dr0 (dr0 (dr0 (hO))))

    · replace h := ifFd w28 h
      refine ⟨z1, (hO.blk (.tail _ (.tail _ (.head _)))).rowT rfl, ?_⟩
      refine c234 z1 _ rfl _ _ _ (fr0 hO) (fun H30 hO => ?_)
      replace hO := un0 hO
      refine ⟨(s234 z1), rfl, ?_⟩
      refine ⟨z2, (hO.blk (.tail _ (.head _))).rowT rfl, ?_⟩
      refine c234 z2 _ rfl _ _ _ (fr0 hO) (fun H31 hO => ?_)
      replace hO := un0 hO
      refine ⟨(s234 z2), rfl, ?_⟩
      refine ⟨fun w32 => ?_, fun w33 => ?_⟩
      · replace h := ifTb w32 h
        refine ⟨fun w34 => ?_, fun w35 => ?_⟩
        · replace h := ifTb w34 h
          refine ⟨z1, (hO.blk (.tail _ (.tail _ (.head _)))).rowT rfl, ?_⟩
          refine c235 z1 _ rfl _ _ _ (fr0 hO) (fun H36 hO => ?_)
          replace hO := un0 hO
          refine ⟨(s235 z1), rfl, ?_⟩
          refine ⟨z2, (hO.blk (.tail _ (.head _))).rowT rfl, ?_⟩
          refine c235 z2 _ rfl _ _ _ (fr0 hO) (fun H37 hO => ?_)
          replace hO := un0 hO
          refine ⟨(s235 z2), rfl, ?_⟩
          refine ⟨fun w38 => ?_, fun w39 => ?_⟩
          · replace h := ifTd w38 h
            obtain ⟨r40, e41, h⟩ := bindS h
            refine c236 z0 (s235 z1) (s235 z2) r40 e41 _ _ _ (fr0 hO) (fun H42 hO => ?_)
            replace hO := un0 hO
            refine ⟨r40, rfl, ?_⟩
            refine ⟨(hO.blk (.head _)).wr (Nat.le_of_ble_eq_true rfl), ?_⟩
            intro H43 eH43
            replace hO := oz0 (l' := encVal r40) hO eH43 rfl
            refine ⟨r40, (hO.blk (.head _)).rowT rfl, ?_⟩
            obtain rfl := Option.some.inj h
            exact hR _ (dr0 (dr0 (dr0 (hO))))

          · replace h := ifFd w39 h
            refine ⟨fun l Hc => Own Hc [cellE 94 H22.size (encVal (⟨(0 : Int), (0 : Int), ([] : List UInt8)⟩ : ValT))] F ∧ (k221_1 z0 z1 z2 (asI (nth l 0))) = some r_, ?_, ?_⟩
            · refine ⟨fun w54 => ?_, fun w55 => ?_⟩
              · replace h := ifTd w54 h
                replace hO := dr1 (dr1 (hO))
                exact ⟨hO, h⟩

              · replace h := ifFd w55 h
                replace hO := dr1 (dr1 (hO))
                exact ⟨hO, h⟩


            · clear hO h
              intro H44 u45 x46 hJ
              obtain ⟨hO, h⟩ := hJ
              replace h : (k221_1 z0 z1 z2 x46) = some r_ := h
              unfold k221_1 at h
              refine ⟨fun l Hc => Own Hc [cellE 94 H22.size (encVal (⟨(0 : Int), (0 : Int), ([] : List UInt8)⟩ : ValT))] F ∧ (k221_0 z0 (asI (nth l 0))) = some r_, ?_, ?_⟩
              · refine ⟨fun w52 => ?_, fun w53 => ?_⟩
                · replace h := ifTd w52 h
                  exact ⟨hO, h⟩

                · replace h := ifFd w53 h
                  exact ⟨hO, h⟩


              · clear hO h
                intro H47 u48 x49 hJ
                obtain ⟨hO, h⟩ := hJ
                replace h : (k221_0 z0 x49) = some r_ := h
                unfold k221_0 at h
                refine c237 z0 x49 _ rfl _ _ _ (fr0 hO) (fun H50 hO => ?_)
                replace hO := un0 hO
                refine ⟨(s237 z0 x49), rfl, ?_⟩
                refine ⟨(hO.blk (.head _)).wr (Nat.le_of_ble_eq_true rfl), ?_⟩
                intro H51 eH51
                replace hO := oz0 (l' := encVal (s237 z0 x49)) hO eH51 rfl
                refine ⟨(s237 z0 x49), (hO.blk (.head _)).rowT rfl, ?_⟩
                obtain rfl := Option.some.inj h
                exact hR _ (dr0 (hO))




        · replace h := ifFb w35 h
          refine ⟨fun w56 => ?_, fun w57 => ?_⟩
          · replace h := ifTd w56 h
            refine c131 (5 : Int) _ rfl _ _ _ (fr0 hO) (fun H58 hO => ?_)
            replace hO := un0 hO
            refine ⟨(s131 (5 : Int)), rfl, ?_⟩
            refine ⟨(hO.blk (.head _)).wr (Nat.le_of_ble_eq_true rfl), ?_⟩
            intro H59 eH59
            replace hO := oz0 (l' := encVal (s131 (5 : Int))) hO eH59 rfl
            refine ⟨(s131 (5 : Int)), (hO.blk (.head _)).rowT rfl, ?_⟩
            obtain rfl := Option.some.inj h
            exact hR _ (dr0 (dr0 (dr0 (hO))))

          · replace h := ifFd w57 h
            refine ⟨z1, (hO.blk (.tail _ (.tail _ (.head _)))).rowT rfl, ?_⟩
            refine c233 z1 _ rfl _ _ _ (fr0 hO) (fun H60 hO => ?_)
            replace hO := un0 hO
            refine ⟨(s233 z1), rfl, ?_⟩
            refine ⟨z2, (hO.blk (.tail _ (.head _))).rowT rfl, ?_⟩
            refine c233 z2 _ rfl _ _ _ (fr0 hO) (fun H61 hO => ?_)
            replace hO := un0 hO
            refine ⟨(s233 z2), rfl, ?_⟩
            refine ⟨fun w62 => ?_, fun w63 => ?_⟩
            · replace h := ifTb w62 h
              refine ⟨fun w64 => ?_, fun w65 => ?_⟩
              · replace h := ifTb w64 h
                refine ⟨fun l Hc => Own Hc [cellE 94 H22.size (encVal (⟨(0 : Int), (0 : Int), ([] : List UInt8)⟩ : ValT)), cellE 94 H21.size (encVal z2), cellE 94 H.size (encVal z1)] F ∧ (k221_3 z0 z1 z2 (asI (nth l 0))) = some r_, ?_, ?_⟩
                · refine ⟨z1.s, ((hO.blk (.tail _ (.tail _ (.head _)))).rdv rfl), ?_⟩
                  refine ⟨z2.s, ((hO.blk (.tail _ (.head _))).rdv rfl), ?_⟩
                  refine ⟨fun w76 => ?_, fun w77 => ?_⟩
                  · replace h := ifTb w76 h
                    exact ⟨hO, h⟩

                  · replace h := ifFb w77 h
                    exact ⟨hO, h⟩


                · clear hO h
                  intro H66 u67 x68 hJ
                  obtain ⟨hO, h⟩ := hJ
                  replace h : (k221_3 z0 z1 z2 x68) = some r_ := h
                  unfold k221_3 at h
                  refine ⟨fun l Hc => Own Hc [cellE 94 H22.size (encVal (⟨(0 : Int), (0 : Int), ([] : List UInt8)⟩ : ValT))] F ∧ (k221_0 z0 (asI (nth l 0))) = some r_, ?_, ?_⟩
                  · refine ⟨z1.s, ((hO.blk (.tail _ (.tail _ (.head _)))).rdv rfl), ?_⟩
                    refine ⟨z2.s, ((hO.blk (.tail _ (.head _))).rdv rfl), ?_⟩
                    refine ⟨fun w74 => ?_, fun w75 => ?_⟩
                    · replace w74 := bnotT w74
                      replace h := ifFb w74 h
                      replace hO := dr1 (dr1 (hO))
                      exact ⟨hO, h⟩

                    · replace w75 := bnotF w75
                      replace h := ifTb w75 h
                      replace hO := dr1 (dr1 (hO))
                      exact ⟨hO, h⟩


                  · clear hO h
                    intro H69 u70 x71 hJ
                    obtain ⟨hO, h⟩ := hJ
                    replace h : (k221_0 z0 x71) = some r_ := h
                    unfold k221_0 at h
                    refine c237 z0 x71 _ rfl _ _ _ (fr0 hO) (fun H72 hO => ?_)
                    replace hO := un0 hO
                    refine ⟨(s237 z0 x71), rfl, ?_⟩
                    refine ⟨(hO.blk (.head _)).wr (Nat.le_of_ble_eq_true rfl), ?_⟩
                    intro H73 eH73
                    replace hO := oz0 (l' := encVal (s237 z0 x71)) hO eH73 rfl
                    refine ⟨(s237 z0 x71), (hO.blk (.head _)).rowT rfl, ?_⟩
                    obtain rfl := Option.some.inj h
                    exact hR _ (dr0 (hO))



              · replace h := ifFb w65 h
                refine ⟨z1.kind, ((hO.blk (.tail _ (.tail _ (.head _)))).rdv rfl), ?_⟩
                refine ⟨fun w78 => ?_, fun w79 => ?_⟩
                · replace h := ifTd w78 h
                  refine ⟨z2.kind, ((hO.blk (.tail _ (.head _))).rdv rfl), ?_⟩
                  refine ⟨fun w80 => ?_, fun w81 => ?_⟩
                  · replace h := ifTd w80 h
                    refine ⟨z1.n, ((hO.blk (.tail _ (.tail _ (.head _)))).rdv rfl), ?_⟩
                    refine ⟨z2.n, ((hO.blk (.tail _ (.head _))).rdv rfl), ?_⟩
                    obtain ⟨q82, h⟩ := ckS h
                    refine ⟨q82, ?_⟩
                    refine c237 z0 (z1.n - z2.n) _ rfl _ _ _ (fr0 hO) (fun H83 hO => ?_)
                    replace hO := un0 hO
                    refine ⟨(s237 z0 (z1.n - z2.n)), rfl, ?_⟩
                    refine ⟨(hO.blk (.head _)).wr (Nat.le_of_ble_eq_true rfl), ?_⟩
                    intro H84 eH84
                    replace hO := oz0 (l' := encVal (s237 z0 (z1.n - z2.n))) hO eH84 rfl
                    refine ⟨(s237 z0 (z1.n - z2.n)), (hO.blk (.head _)).rowT rfl, ?_⟩
                    obtain rfl := Option.some.inj h
                    exact hR _ (dr0 (dr0 (dr0 (hO))))

                  · replace h := ifFd w81 h
                    refine c131 (5 : Int) _ rfl _ _ _ (fr0 hO) (fun H85 hO => ?_)
                    replace hO := un0 hO
                    refine ⟨(s131 (5 : Int)), rfl, ?_⟩
                    refine ⟨(hO.blk (.head _)).wr (Nat.le_of_ble_eq_true rfl), ?_⟩
                    intro H86 eH86
                    replace hO := oz0 (l' := encVal (s131 (5 : Int))) hO eH86 rfl
                    refine ⟨(s131 (5 : Int)), (hO.blk (.head _)).rowT rfl, ?_⟩
                    obtain rfl := Option.some.inj h
                    exact hR _ (dr0 (dr0 (dr0 (hO))))


                · replace h := ifFd w79 h
                  refine c131 (5 : Int) _ rfl _ _ _ (fr0 hO) (fun H87 hO => ?_)
                  replace hO := un0 hO
                  refine ⟨(s131 (5 : Int)), rfl, ?_⟩
                  refine ⟨(hO.blk (.head _)).wr (Nat.le_of_ble_eq_true rfl), ?_⟩
                  intro H88 eH88
                  replace hO := oz0 (l' := encVal (s131 (5 : Int))) hO eH88 rfl
                  refine ⟨(s131 (5 : Int)), (hO.blk (.head _)).rowT rfl, ?_⟩
                  obtain rfl := Option.some.inj h
                  exact hR _ (dr0 (dr0 (dr0 (hO))))



            · replace h := ifFb w63 h
              refine ⟨z1.kind, ((hO.blk (.tail _ (.tail _ (.head _)))).rdv rfl), ?_⟩
              refine ⟨fun w89 => ?_, fun w90 => ?_⟩
              · replace h := ifTd w89 h
                refine ⟨z2.kind, ((hO.blk (.tail _ (.head _))).rdv rfl), ?_⟩
                refine ⟨fun w91 => ?_, fun w92 => ?_⟩
                · replace h := ifTd w91 h
                  refine ⟨z1.n, ((hO.blk (.tail _ (.tail _ (.head _)))).rdv rfl), ?_⟩
                  refine ⟨z2.n, ((hO.blk (.tail _ (.head _))).rdv rfl), ?_⟩
                  obtain ⟨q93, h⟩ := ckS h
                  refine ⟨q93, ?_⟩
                  refine c237 z0 (z1.n - z2.n) _ rfl _ _ _ (fr0 hO) (fun H94 hO => ?_)
                  replace hO := un0 hO
                  refine ⟨(s237 z0 (z1.n - z2.n)), rfl, ?_⟩
                  refine ⟨(hO.blk (.head _)).wr (Nat.le_of_ble_eq_true rfl), ?_⟩
                  intro H95 eH95
                  replace hO := oz0 (l' := encVal (s237 z0 (z1.n - z2.n))) hO eH95 rfl
                  refine ⟨(s237 z0 (z1.n - z2.n)), (hO.blk (.head _)).rowT rfl, ?_⟩
                  obtain rfl := Option.some.inj h
                  exact hR _ (dr0 (dr0 (dr0 (hO))))

                · replace h := ifFd w92 h
                  refine c131 (5 : Int) _ rfl _ _ _ (fr0 hO) (fun H96 hO => ?_)
                  replace hO := un0 hO
                  refine ⟨(s131 (5 : Int)), rfl, ?_⟩
                  refine ⟨(hO.blk (.head _)).wr (Nat.le_of_ble_eq_true rfl), ?_⟩
                  intro H97 eH97
                  replace hO := oz0 (l' := encVal (s131 (5 : Int))) hO eH97 rfl
                  refine ⟨(s131 (5 : Int)), (hO.blk (.head _)).rowT rfl, ?_⟩
                  obtain rfl := Option.some.inj h
                  exact hR _ (dr0 (dr0 (dr0 (hO))))


              · replace h := ifFd w90 h
                refine c131 (5 : Int) _ rfl _ _ _ (fr0 hO) (fun H98 hO => ?_)
                replace hO := un0 hO
                refine ⟨(s131 (5 : Int)), rfl, ?_⟩
                refine ⟨(hO.blk (.head _)).wr (Nat.le_of_ble_eq_true rfl), ?_⟩
                intro H99 eH99
                replace hO := oz0 (l' := encVal (s131 (5 : Int))) hO eH99 rfl
                refine ⟨(s131 (5 : Int)), (hO.blk (.head _)).rowT rfl, ?_⟩
                obtain rfl := Option.some.inj h
                exact hR _ (dr0 (dr0 (dr0 (hO))))





      · replace h := ifFb w33 h
        refine ⟨fun w100 => ?_, fun w101 => ?_⟩
        · replace h := ifTd w100 h
          refine c131 (5 : Int) _ rfl _ _ _ (fr0 hO) (fun H102 hO => ?_)
          replace hO := un0 hO
          refine ⟨(s131 (5 : Int)), rfl, ?_⟩
          refine ⟨(hO.blk (.head _)).wr (Nat.le_of_ble_eq_true rfl), ?_⟩
          intro H103 eH103
          replace hO := oz0 (l' := encVal (s131 (5 : Int))) hO eH103 rfl
          refine ⟨(s131 (5 : Int)), (hO.blk (.head _)).rowT rfl, ?_⟩
          obtain rfl := Option.some.inj h
          exact hR _ (dr0 (dr0 (dr0 (hO))))

        · replace h := ifFd w101 h
          refine ⟨z1, (hO.blk (.tail _ (.tail _ (.head _)))).rowT rfl, ?_⟩
          refine c233 z1 _ rfl _ _ _ (fr0 hO) (fun H104 hO => ?_)
          replace hO := un0 hO
          refine ⟨(s233 z1), rfl, ?_⟩
          refine ⟨z2, (hO.blk (.tail _ (.head _))).rowT rfl, ?_⟩
          refine c233 z2 _ rfl _ _ _ (fr0 hO) (fun H105 hO => ?_)
          replace hO := un0 hO
          refine ⟨(s233 z2), rfl, ?_⟩
          refine ⟨fun w106 => ?_, fun w107 => ?_⟩
          · replace h := ifTb w106 h
            refine ⟨fun w108 => ?_, fun w109 => ?_⟩
            · replace h := ifTb w108 h
              refine ⟨fun l Hc => Own Hc [cellE 94 H22.size (encVal (⟨(0 : Int), (0 : Int), ([] : List UInt8)⟩ : ValT)), cellE 94 H21.size (encVal z2), cellE 94 H.size (encVal z1)] F ∧ (k221_3 z0 z1 z2 (asI (nth l 0))) = some r_, ?_, ?_⟩
              · refine ⟨z1.s, ((hO.blk (.tail _ (.tail _ (.head _)))).rdv rfl), ?_⟩
                refine ⟨z2.s, ((hO.blk (.tail _ (.head _))).rdv rfl), ?_⟩
                refine ⟨fun w120 => ?_, fun w121 => ?_⟩
                · replace h := ifTb w120 h
                  exact ⟨hO, h⟩

                · replace h := ifFb w121 h
                  exact ⟨hO, h⟩


              · clear hO h
                intro H110 u111 x112 hJ
                obtain ⟨hO, h⟩ := hJ
                replace h : (k221_3 z0 z1 z2 x112) = some r_ := h
                unfold k221_3 at h
                refine ⟨fun l Hc => Own Hc [cellE 94 H22.size (encVal (⟨(0 : Int), (0 : Int), ([] : List UInt8)⟩ : ValT))] F ∧ (k221_0 z0 (asI (nth l 0))) = some r_, ?_, ?_⟩
                · refine ⟨z1.s, ((hO.blk (.tail _ (.tail _ (.head _)))).rdv rfl), ?_⟩
                  refine ⟨z2.s, ((hO.blk (.tail _ (.head _))).rdv rfl), ?_⟩
                  refine ⟨fun w118 => ?_, fun w119 => ?_⟩
                  · replace w118 := bnotT w118
                    replace h := ifFb w118 h
                    replace hO := dr1 (dr1 (hO))
                    exact ⟨hO, h⟩

                  · replace w119 := bnotF w119
                    replace h := ifTb w119 h
                    replace hO := dr1 (dr1 (hO))
                    exact ⟨hO, h⟩


                · clear hO h
                  intro H113 u114 x115 hJ
                  obtain ⟨hO, h⟩ := hJ
                  replace h : (k221_0 z0 x115) = some r_ := h
                  unfold k221_0 at h
                  refine c237 z0 x115 _ rfl _ _ _ (fr0 hO) (fun H116 hO => ?_)
                  replace hO := un0 hO
                  refine ⟨(s237 z0 x115), rfl, ?_⟩
                  refine ⟨(hO.blk (.head _)).wr (Nat.le_of_ble_eq_true rfl), ?_⟩
                  intro H117 eH117
                  replace hO := oz0 (l' := encVal (s237 z0 x115)) hO eH117 rfl
                  refine ⟨(s237 z0 x115), (hO.blk (.head _)).rowT rfl, ?_⟩
                  obtain rfl := Option.some.inj h
                  exact hR _ (dr0 (hO))



            · replace h := ifFb w109 h
              refine ⟨z1.kind, ((hO.blk (.tail _ (.tail _ (.head _)))).rdv rfl), ?_⟩
              refine ⟨fun w122 => ?_, fun w123 => ?_⟩
              · replace h := ifTd w122 h
                refine ⟨z2.kind, ((hO.blk (.tail _ (.head _))).rdv rfl), ?_⟩
                refine ⟨fun w124 => ?_, fun w125 => ?_⟩
                · replace h := ifTd w124 h
                  refine ⟨z1.n, ((hO.blk (.tail _ (.tail _ (.head _)))).rdv rfl), ?_⟩
                  refine ⟨z2.n, ((hO.blk (.tail _ (.head _))).rdv rfl), ?_⟩
                  obtain ⟨q126, h⟩ := ckS h
                  refine ⟨q126, ?_⟩
                  refine c237 z0 (z1.n - z2.n) _ rfl _ _ _ (fr0 hO) (fun H127 hO => ?_)
                  replace hO := un0 hO
                  refine ⟨(s237 z0 (z1.n - z2.n)), rfl, ?_⟩
                  refine ⟨(hO.blk (.head _)).wr (Nat.le_of_ble_eq_true rfl), ?_⟩
                  intro H128 eH128
                  replace hO := oz0 (l' := encVal (s237 z0 (z1.n - z2.n))) hO eH128 rfl
                  refine ⟨(s237 z0 (z1.n - z2.n)), (hO.blk (.head _)).rowT rfl, ?_⟩
                  obtain rfl := Option.some.inj h
                  exact hR _ (dr0 (dr0 (dr0 (hO))))

                · replace h := ifFd w125 h
                  refine c131 (5 : Int) _ rfl _ _ _ (fr0 hO) (fun H129 hO => ?_)
                  replace hO := un0 hO
                  refine ⟨(s131 (5 : Int)), rfl, ?_⟩
                  refine ⟨(hO.blk (.head _)).wr (Nat.le_of_ble_eq_true rfl), ?_⟩
                  intro H130 eH130
                  replace hO := oz0 (l' := encVal (s131 (5 : Int))) hO eH130 rfl
                  refine ⟨(s131 (5 : Int)), (hO.blk (.head _)).rowT rfl, ?_⟩
                  obtain rfl := Option.some.inj h
                  exact hR _ (dr0 (dr0 (dr0 (hO))))


              · replace h := ifFd w123 h
                refine c131 (5 : Int) _ rfl _ _ _ (fr0 hO) (fun H131 hO => ?_)
                replace hO := un0 hO
                refine ⟨(s131 (5 : Int)), rfl, ?_⟩
                refine ⟨(hO.blk (.head _)).wr (Nat.le_of_ble_eq_true rfl), ?_⟩
                intro H132 eH132
                replace hO := oz0 (l' := encVal (s131 (5 : Int))) hO eH132 rfl
                refine ⟨(s131 (5 : Int)), (hO.blk (.head _)).rowT rfl, ?_⟩
                obtain rfl := Option.some.inj h
                exact hR _ (dr0 (dr0 (dr0 (hO))))



          · replace h := ifFb w107 h
            refine ⟨z1.kind, ((hO.blk (.tail _ (.tail _ (.head _)))).rdv rfl), ?_⟩
            refine ⟨fun w133 => ?_, fun w134 => ?_⟩
            · replace h := ifTd w133 h
              refine ⟨z2.kind, ((hO.blk (.tail _ (.head _))).rdv rfl), ?_⟩
              refine ⟨fun w135 => ?_, fun w136 => ?_⟩
              · replace h := ifTd w135 h
                refine ⟨z1.n, ((hO.blk (.tail _ (.tail _ (.head _)))).rdv rfl), ?_⟩
                refine ⟨z2.n, ((hO.blk (.tail _ (.head _))).rdv rfl), ?_⟩
                obtain ⟨q137, h⟩ := ckS h
                refine ⟨q137, ?_⟩
                refine c237 z0 (z1.n - z2.n) _ rfl _ _ _ (fr0 hO) (fun H138 hO => ?_)
                replace hO := un0 hO
                refine ⟨(s237 z0 (z1.n - z2.n)), rfl, ?_⟩
                refine ⟨(hO.blk (.head _)).wr (Nat.le_of_ble_eq_true rfl), ?_⟩
                intro H139 eH139
                replace hO := oz0 (l' := encVal (s237 z0 (z1.n - z2.n))) hO eH139 rfl
                refine ⟨(s237 z0 (z1.n - z2.n)), (hO.blk (.head _)).rowT rfl, ?_⟩
                obtain rfl := Option.some.inj h
                exact hR _ (dr0 (dr0 (dr0 (hO))))

              · replace h := ifFd w136 h
                refine c131 (5 : Int) _ rfl _ _ _ (fr0 hO) (fun H140 hO => ?_)
                replace hO := un0 hO
                refine ⟨(s131 (5 : Int)), rfl, ?_⟩
                refine ⟨(hO.blk (.head _)).wr (Nat.le_of_ble_eq_true rfl), ?_⟩
                intro H141 eH141
                replace hO := oz0 (l' := encVal (s131 (5 : Int))) hO eH141 rfl
                refine ⟨(s131 (5 : Int)), (hO.blk (.head _)).rowT rfl, ?_⟩
                obtain rfl := Option.some.inj h
                exact hR _ (dr0 (dr0 (dr0 (hO))))


            · replace h := ifFd w134 h
              refine c131 (5 : Int) _ rfl _ _ _ (fr0 hO) (fun H142 hO => ?_)
              replace hO := un0 hO
              refine ⟨(s131 (5 : Int)), rfl, ?_⟩
              refine ⟨(hO.blk (.head _)).wr (Nat.le_of_ble_eq_true rfl), ?_⟩
              intro H143 eH143
              replace hO := oz0 (l' := encVal (s131 (5 : Int))) hO eH143 rfl
              refine ⟨(s131 (5 : Int)), (hO.blk (.head _)).rowT rfl, ?_⟩
              obtain rfl := Option.some.inj h
              exact hR _ (dr0 (dr0 (dr0 (hO))))








theorem c222 (z0 : ValT) (z1 : ValT) (z2 : ValT) (r_ : ValT) (h : s222 z0 z1 z2 = r_) (F : List Ent) (H : Heap) (R : Value → Heap → Prop)
    (hO : Own H [] F)
    (hR : ∀ (H' : Heap) , Own H' [] F → R (.agg ⟨encVal r_⟩) H') :
    HCalls Tryz.prog 222 #[Value.agg ⟨encVal z0⟩, Value.agg ⟨encVal z1⟩, Value.agg ⟨encVal z2⟩] H R := by
  refine vc222 z0 z1 z2 H R ?_
  unfold s222 at h
  intro H21 eH21
  replace hO := own_new (l := encVal z0) hO eH21 rfl
  intro H22 eH22
  replace hO := own_new (l := encVal z1) hO eH22 rfl
  intro H23 eH23
  replace hO := own_new (l := encVal z2) hO eH23 rfl
  intro H24 eH24
  replace hO := own_new (l := encVal (⟨(0 : Int), (0 : Int), ([] : List UInt8)⟩ : ValT)) hO eH24 rfl
  refine ⟨z0.kind, ((hO.blk (.tail _ (.tail _ (.tail _ (.head _))))).rdv rfl), ?_⟩
  refine ⟨fun w25 => ?_, fun w26 => ?_⟩
  · replace h := ifTd w25 h
    refine ⟨z0, (hO.blk (.tail _ (.tail _ (.tail _ (.head _))))).rowT rfl, ?_⟩
    refine ⟨(hO.blk (.head _)).wr (Nat.le_of_ble_eq_true rfl), ?_⟩
    intro H27 eH27
    replace hO := oz0 (l' := encVal z0) hO eH27 rfl
    refine ⟨z0, (hO.blk (.head _)).rowT rfl, ?_⟩
    subst h
    exact hR _ (dr0 (dr0 (dr0 (dr0 (hO)))))

  · replace h := ifFd w26 h
    refine ⟨z0.kind, ((hO.blk (.tail _ (.tail _ (.tail _ (.head _))))).rdv rfl), ?_⟩
    refine ⟨fun w28 => ?_, fun w29 => ?_⟩
    · replace w28 := bnotT w28
      replace h := ifFd w28 h
      refine c131 (5 : Int) _ rfl _ _ _ (fr0 hO) (fun H30 hO => ?_)
      replace hO := un0 hO
      refine ⟨(s131 (5 : Int)), rfl, ?_⟩
      refine ⟨(hO.blk (.head _)).wr (Nat.le_of_ble_eq_true rfl), ?_⟩
      intro H31 eH31
      replace hO := oz0 (l' := encVal (s131 (5 : Int))) hO eH31 rfl
      refine ⟨(s131 (5 : Int)), (hO.blk (.head _)).rowT rfl, ?_⟩
      subst h
      exact hR _ (dr0 (dr0 (dr0 (dr0 (hO)))))

    · replace w29 := bnotF w29
      replace h := ifTd w29 h
      refine ⟨z0.n, ((hO.blk (.tail _ (.tail _ (.tail _ (.head _))))).rdv rfl), ?_⟩
      refine ⟨fun w32 => ?_, fun w33 => ?_⟩
      · replace h := ifTd w32 h
        refine ⟨z1, (hO.blk (.tail _ (.tail _ (.head _)))).rowT rfl, ?_⟩
        refine ⟨(hO.blk (.head _)).wr (Nat.le_of_ble_eq_true rfl), ?_⟩
        intro H34 eH34
        replace hO := oz0 (l' := encVal z1) hO eH34 rfl
        refine ⟨z1, (hO.blk (.head _)).rowT rfl, ?_⟩
        subst h
        exact hR _ (dr0 (dr0 (dr0 (dr0 (hO)))))

      · replace h := ifFd w33 h
        refine ⟨z2, (hO.blk (.tail _ (.head _))).rowT rfl, ?_⟩
        refine ⟨(hO.blk (.head _)).wr (Nat.le_of_ble_eq_true rfl), ?_⟩
        intro H35 eH35
        replace hO := oz0 (l' := encVal z2) hO eH35 rfl
        refine ⟨z2, (hO.blk (.head _)).rowT rfl, ?_⟩
        subst h
        exact hR _ (dr0 (dr0 (dr0 (dr0 (hO)))))





theorem c223 (z0 : Nat) (L0 : VL) (S0 : VS) (z1 : Int) (z2 : ValT) (z3 : Bool) (r_ : VS) (h : s223 S0 z1 z2 z3 = some r_) (F : List Ent) (H : Heap) (R : Value → Heap → Prop)
    (hO : Own H [oV z0 L0 S0] F)
    (hR : ∀ (H' : Heap) , Own H' [oV z0 L0 r_] F → R (.tuple #[]) H') :
    HCalls Tryz.prog 223 #[Value.pointer (some ⟨z0, 0, none⟩), I z1, Value.agg ⟨encVal z2⟩, Value.bool z3] H R := by
  refine vc223 z0 z1 z2 z3 H R ?_
  unfold s223 at h
  intro H21 eH21
  replace hO := own_new (l := encVal z2) hO eH21 rfl
  replace hO := open_V (pu1 hO)
  refine ⟨S0.deep, ((hO.blk (.head _)).rdv rfl), ?_⟩
  obtain ⟨q22, h⟩ := ckS h
  refine ⟨q22, ?_⟩
  refine ⟨(some ⟨L0.folds, 0, none⟩), 24, 24, ((hO.blk (.head _)).rdv rfl), ?_⟩
  obtain ⟨x23, g24, h⟩ := getS h
  refine ⟨_, _, rfl, g24.1, g24.2.1, rfl, ?_⟩
  refine ⟨x23.bad.kind, ((hO.arr (.tail _ (.tail _ (.tail _ (.tail _ (.tail _ (.head _))))))).rd (i := Int.toNat (S0.deep - (1 : Int))) (j := 0) lenTally g24.2.2 (by decide) (zo0 _) rfl), ?_⟩
  refine ⟨fun w25 => ?_, fun w26 => ?_⟩
  · replace h := ifTd w25 h
    replace hO := close_V L0 S0 (hO)
    obtain rfl := Option.some.inj h
    exact hR _ (dr1 (hO))

  · replace h := ifFd w26 h
    refine ⟨z2.kind, ((hO.blk (.tail _ (.tail _ (.tail _ (.tail _ (.tail _ (.tail _ (.head _)))))))).rdv rfl), ?_⟩
    refine ⟨fun w27 => ?_, fun w28 => ?_⟩
    · replace h := ifTd w27 h
      refine ⟨(some ⟨L0.folds, 0, none⟩), 24, 24, ((hO.blk (.head _)).rdv rfl), ?_⟩
      refine ⟨z2, (hO.blk (.tail _ (.tail _ (.tail _ (.tail _ (.tail _ (.tail _ (.head _)))))))).rowT rfl, ?_⟩
      refine ⟨_, _, rfl, g24.1, g24.2.1, rfl, ?_⟩
      refine ⟨((hO.arr (.tail _ (.tail _ (.tail _ (.tail _ (.tail _ (.head _))))))).wr1 lenTally (i := Int.toNat (S0.deep - (1 : Int))) (j := 0) (getLt g24.2.2) (Nat.le_of_ble_eq_true rfl) (zo0 _)), ?_⟩
      intro H29 eH29
      replace hO := oz5 (l' := List.flatMap encTally (List.set S0.folds (Int.toNat (S0.deep - (1 : Int))) ({ x23 with bad := z2 }))) hO eH29 (flat_sub1 lenTally (i := Int.toNat (S0.deep - (1 : Int))) (j := 0) g24.2.2 (Nat.le_of_ble_eq_true rfl) (by simp [encVal, encRef]) (zo0 _) rfl)
      replace hO := close_V L0 ({ S0 with folds := (List.set S0.folds (Int.toNat (S0.deep - (1 : Int))) ({ x23 with bad := z2 })) }) (hO)
      obtain rfl := Option.some.inj h
      exact hR _ (dr1 (hO))

    · replace h := ifFd w28 h
      refine ⟨fun w31 => ?_, fun w30 => ?_⟩
      · replace h := ifFd w31 h
        refine ⟨fun w32 => ?_, fun w33 => ?_⟩
        · replace h := ifTd w32 h
          refine ⟨z2.kind, ((hO.blk (.tail _ (.tail _ (.tail _ (.tail _ (.tail _ (.tail _ (.head _)))))))).rdv rfl), ?_⟩
          refine ⟨fun w34 => ?_, fun w35 => ?_⟩
          · replace w34 := bnotT w34
            replace h := ifFd w34 h
            refine ⟨?_, ?_⟩
            · refine ⟨(some ⟨L0.folds, 0, none⟩), 24, 24, ((hO.blk (.head _)).rdv rfl), ?_⟩
              refine c131 (5 : Int) _ rfl _ _ _ (fr0 hO) (fun H38 hO => ?_)
              replace hO := un0 hO
              refine ⟨(s131 (5 : Int)), rfl, ?_⟩
              refine ⟨_, _, rfl, g24.1, g24.2.1, rfl, ?_⟩
              refine ⟨((hO.arr (.tail _ (.tail _ (.tail _ (.tail _ (.tail _ (.head _))))))).wr1 lenTally (i := Int.toNat (S0.deep - (1 : Int))) (j := 0) (getLt g24.2.2) (Nat.le_of_ble_eq_true rfl) (zo0 _)), ?_⟩
              intro H39 eH39
              replace hO := oz5 (l' := List.flatMap encTally (List.set S0.folds (Int.toNat (S0.deep - (1 : Int))) ({ x23 with bad := (s131 (5 : Int)) }))) hO eH39 (flat_sub1 lenTally (i := Int.toNat (S0.deep - (1 : Int))) (j := 0) g24.2.2 (Nat.le_of_ble_eq_true rfl) (by simp [encVal, encRef]) (zo0 _) rfl)
              replace hO := close_V L0 ({ S0 with folds := (List.set S0.folds (Int.toNat (S0.deep - (1 : Int))) ({ x23 with bad := (s131 (5 : Int)) })) }) (hO)
              obtain rfl := Option.some.inj h
              exact hR _ (dr1 (hO))

            · refine c131 (5 : Int) _ rfl _ _ _ (fr0 hO) (fun H40 hO => ?_)
              replace hO := un0 hO
              refine ⟨(s131 (5 : Int)), rfl, ?_⟩
              refine ⟨(some ⟨L0.folds, 0, none⟩), 24, 24, ((hO.blk (.head _)).rdv rfl), ?_⟩
              refine ⟨_, _, rfl, g24.1, g24.2.1, rfl, ?_⟩
              refine ⟨((hO.arr (.tail _ (.tail _ (.tail _ (.tail _ (.tail _ (.head _))))))).wr1 lenTally (i := Int.toNat (S0.deep - (1 : Int))) (j := 0) (getLt g24.2.2) (Nat.le_of_ble_eq_true rfl) (zo0 _)), ?_⟩
              intro H41 eH41
              replace hO := oz5 (l' := List.flatMap encTally (List.set S0.folds (Int.toNat (S0.deep - (1 : Int))) ({ x23 with bad := (s131 (5 : Int)) }))) hO eH41 (flat_sub1 lenTally (i := Int.toNat (S0.deep - (1 : Int))) (j := 0) g24.2.2 (Nat.le_of_ble_eq_true rfl) (by simp [encVal, encRef]) (zo0 _) rfl)
              replace hO := close_V L0 ({ S0 with folds := (List.set S0.folds (Int.toNat (S0.deep - (1 : Int))) ({ x23 with bad := (s131 (5 : Int)) })) }) (hO)
              obtain rfl := Option.some.inj h
              exact hR _ (dr1 (hO))


          · replace w35 := bnotF w35
            replace h := ifTd w35 h
            refine ⟨z2.n, ((hO.blk (.tail _ (.tail _ (.tail _ (.tail _ (.tail _ (.tail _ (.head _)))))))).rdv rfl), ?_⟩
            refine ⟨fun w42 => ?_, fun w43 => ?_⟩
            · replace h := ifTb w42 h
              refine ⟨(some ⟨L0.folds, 0, none⟩), 24, 24, ((hO.blk (.head _)).rdv rfl), ?_⟩
              refine ⟨_, _, rfl, g24.1, g24.2.1, rfl, ?_⟩
              refine ⟨((hO.arr (.tail _ (.tail _ (.tail _ (.tail _ (.tail _ (.head _))))))).wr1 lenTally (i := Int.toNat (S0.deep - (1 : Int))) (j := 3) (getLt g24.2.2) (Nat.le_of_ble_eq_true rfl) (zo _ 3)), ?_⟩
              intro H44 eH44
              replace hO := os5 (l' := List.flatMap encTally (List.set S0.folds (Int.toNat (S0.deep - (1 : Int))) ({ x23 with acc := (1 : Int) }))) hO eH44 (flat_set1 lenTally (i := Int.toNat (S0.deep - (1 : Int))) (j := 3) g24.2.2 (by decide) (zo _ 3) rfl)
              replace hO := close_V L0 ({ S0 with folds := (List.set S0.folds (Int.toNat (S0.deep - (1 : Int))) ({ x23 with acc := (1 : Int) })) }) (hO)
              obtain rfl := Option.some.inj h
              exact hR _ (dr1 (hO))

            · replace h := ifFb w43 h
              replace hO := close_V L0 S0 (hO)
              obtain rfl := Option.some.inj h
              exact hR _ (dr1 (hO))



        · replace h := ifFd w33 h
          refine ⟨z2.kind, ((hO.blk (.tail _ (.tail _ (.tail _ (.tail _ (.tail _ (.tail _ (.head _)))))))).rdv rfl), ?_⟩
          refine ⟨fun w45 => ?_, fun w46 => ?_⟩
          · replace h := ifTd w45 h
            replace hO := close_V L0 S0 (hO)
            obtain rfl := Option.some.inj h
            exact hR _ (dr1 (hO))

          · replace h := ifFd w46 h
            refine ⟨z2.kind, ((hO.blk (.tail _ (.tail _ (.tail _ (.tail _ (.tail _ (.tail _ (.head _)))))))).rdv rfl), ?_⟩
            refine ⟨fun w47 => ?_, fun w48 => ?_⟩
            · replace w47 := bnotT w47
              replace h := ifFd w47 h
              refine ⟨fun w49 => ?_, fun w50 => ?_⟩
              · replace w49 := bnotT w49
                replace h := ifFb w49 h
                refine ⟨?_, ?_⟩
                · refine ⟨(some ⟨L0.folds, 0, none⟩), 24, 24, ((hO.blk (.head _)).rdv rfl), ?_⟩
                  refine c131 (5 : Int) _ rfl _ _ _ (fr0 hO) (fun H53 hO => ?_)
                  replace hO := un0 hO
                  refine ⟨(s131 (5 : Int)), rfl, ?_⟩
                  refine ⟨_, _, rfl, g24.1, g24.2.1, rfl, ?_⟩
                  refine ⟨((hO.arr (.tail _ (.tail _ (.tail _ (.tail _ (.tail _ (.head _))))))).wr1 lenTally (i := Int.toNat (S0.deep - (1 : Int))) (j := 0) (getLt g24.2.2) (Nat.le_of_ble_eq_true rfl) (zo0 _)), ?_⟩
                  intro H54 eH54
                  replace hO := oz5 (l' := List.flatMap encTally (List.set S0.folds (Int.toNat (S0.deep - (1 : Int))) ({ x23 with bad := (s131 (5 : Int)) }))) hO eH54 (flat_sub1 lenTally (i := Int.toNat (S0.deep - (1 : Int))) (j := 0) g24.2.2 (Nat.le_of_ble_eq_true rfl) (by simp [encVal, encRef]) (zo0 _) rfl)
                  replace hO := close_V L0 ({ S0 with folds := (List.set S0.folds (Int.toNat (S0.deep - (1 : Int))) ({ x23 with bad := (s131 (5 : Int)) })) }) (hO)
                  obtain rfl := Option.some.inj h
                  exact hR _ (dr1 (hO))

                · refine c131 (5 : Int) _ rfl _ _ _ (fr0 hO) (fun H55 hO => ?_)
                  replace hO := un0 hO
                  refine ⟨(s131 (5 : Int)), rfl, ?_⟩
                  refine ⟨(some ⟨L0.folds, 0, none⟩), 24, 24, ((hO.blk (.head _)).rdv rfl), ?_⟩
                  refine ⟨_, _, rfl, g24.1, g24.2.1, rfl, ?_⟩
                  refine ⟨((hO.arr (.tail _ (.tail _ (.tail _ (.tail _ (.tail _ (.head _))))))).wr1 lenTally (i := Int.toNat (S0.deep - (1 : Int))) (j := 0) (getLt g24.2.2) (Nat.le_of_ble_eq_true rfl) (zo0 _)), ?_⟩
                  intro H56 eH56
                  replace hO := oz5 (l' := List.flatMap encTally (List.set S0.folds (Int.toNat (S0.deep - (1 : Int))) ({ x23 with bad := (s131 (5 : Int)) }))) hO eH56 (flat_sub1 lenTally (i := Int.toNat (S0.deep - (1 : Int))) (j := 0) g24.2.2 (Nat.le_of_ble_eq_true rfl) (by simp [encVal, encRef]) (zo0 _) rfl)
                  replace hO := close_V L0 ({ S0 with folds := (List.set S0.folds (Int.toNat (S0.deep - (1 : Int))) ({ x23 with bad := (s131 (5 : Int)) })) }) (hO)
                  obtain rfl := Option.some.inj h
                  exact hR _ (dr1 (hO))


              · replace w50 := bnotF w50
                replace h := ifTb w50 h
                replace hO := close_V L0 S0 (hO)
                obtain rfl := Option.some.inj h
                exact hR _ (dr1 (hO))


            · replace w48 := bnotF w48
              replace h := ifTd w48 h
              refine ⟨(some ⟨L0.folds, 0, none⟩), 24, 24, ((hO.blk (.head _)).rdv rfl), ?_⟩
              refine ⟨_, _, rfl, g24.1, g24.2.1, rfl, ?_⟩
              refine ⟨x23.count, ((hO.arr (.tail _ (.tail _ (.tail _ (.tail _ (.tail _ (.head _))))))).rd (i := Int.toNat (S0.deep - (1 : Int))) (j := 4) lenTally g24.2.2 (by decide) (zo _ 4) rfl), ?_⟩
              replace hO := close_V L0 S0 (hO)
              refine ⟨fun l Hc => ∃ S65 : VS, Own Hc [oV z0 L0 S65] F ∧ (k223_1 S0 S65) = some r_, ?_, ?_⟩
              · refine ⟨fun w72 => ?_, fun w73 => ?_⟩
                · replace h := ifTd w72 h
                  replace hO := open_V (pu0 hO)
                  refine ⟨(some ⟨L0.folds, 0, none⟩), 24, 24, ((hO.blk (.head _)).rdv rfl), ?_⟩
                  refine ⟨(some ⟨L0.folds, 0, none⟩), 24, 24, ((hO.blk (.head _)).rdv rfl), ?_⟩
                  refine ⟨_, _, rfl, g24.1, g24.2.1, rfl, ?_⟩
                  refine ⟨x23.acc, ((hO.arr (.tail _ (.tail _ (.tail _ (.tail _ (.tail _ (.head _))))))).rd (i := Int.toNat (S0.deep - (1 : Int))) (j := 3) lenTally g24.2.2 (by decide) (zo _ 3) rfl), ?_⟩
                  refine ⟨z2.n, ((hO.blk (.tail _ (.tail _ (.tail _ (.tail _ (.tail _ (.tail _ (.head _)))))))).rdv rfl), ?_⟩
                  obtain ⟨q74, h⟩ := ckS h
                  refine ⟨_, .inl ⟨q74, rfl⟩, ?_⟩
                  refine ⟨_, _, rfl, g24.1, g24.2.1, rfl, ?_⟩
                  refine ⟨((hO.arr (.tail _ (.tail _ (.tail _ (.tail _ (.tail _ (.head _))))))).wr1 lenTally (i := Int.toNat (S0.deep - (1 : Int))) (j := 3) (getLt g24.2.2) (Nat.le_of_ble_eq_true rfl) (zo _ 3)), ?_⟩
                  intro H75 eH75
                  replace hO := os5 (l' := List.flatMap encTally (List.set S0.folds (Int.toNat (S0.deep - (1 : Int))) ({ x23 with acc := x23.acc + z2.n }))) hO eH75 (flat_set1 lenTally (i := Int.toNat (S0.deep - (1 : Int))) (j := 3) g24.2.2 (by decide) (zo _ 3) rfl)
                  replace hO := close_V L0 ({ S0 with folds := (List.set S0.folds (Int.toNat (S0.deep - (1 : Int))) ({ x23 with acc := x23.acc + z2.n })) }) (hO)
                  replace hO := dr1 (hO)
                  exact ⟨({ S0 with folds := (List.set S0.folds (Int.toNat (S0.deep - (1 : Int))) ({ x23 with acc := x23.acc + z2.n })) }), hO, h⟩

                · replace h := ifFd w73 h
                  refine ⟨fun w76 => ?_, fun w77 => ?_⟩
                  · replace h := ifTd w76 h
                    refine ⟨fun w79 => ?_, fun w78 => ?_⟩
                    · replace h := ifFd w79 h
                      refine ⟨z2.n, ((hO.blk (.tail _ (.head _))).rdv rfl), ?_⟩
                      replace hO := open_V (pu0 hO)
                      refine ⟨(some ⟨L0.folds, 0, none⟩), 24, 24, ((hO.blk (.head _)).rdv rfl), ?_⟩
                      refine ⟨_, _, rfl, g24.1, g24.2.1, rfl, ?_⟩
                      refine ⟨x23.acc, ((hO.arr (.tail _ (.tail _ (.tail _ (.tail _ (.tail _ (.head _))))))).rd (i := Int.toNat (S0.deep - (1 : Int))) (j := 3) lenTally g24.2.2 (by decide) (zo _ 3) rfl), ?_⟩
                      refine ⟨fun w80 => ?_, fun w81 => ?_⟩
                      · replace h := ifTd w80 h
                        refine ⟨(some ⟨L0.folds, 0, none⟩), 24, 24, ((hO.blk (.head _)).rdv rfl), ?_⟩
                        refine ⟨z2.n, ((hO.blk (.tail _ (.tail _ (.tail _ (.tail _ (.tail _ (.tail _ (.head _)))))))).rdv rfl), ?_⟩
                        refine ⟨_, _, rfl, g24.1, g24.2.1, rfl, ?_⟩
                        refine ⟨((hO.arr (.tail _ (.tail _ (.tail _ (.tail _ (.tail _ (.head _))))))).wr1 lenTally (i := Int.toNat (S0.deep - (1 : Int))) (j := 3) (getLt g24.2.2) (Nat.le_of_ble_eq_true rfl) (zo _ 3)), ?_⟩
                        intro H82 eH82
                        replace hO := os5 (l' := List.flatMap encTally (List.set S0.folds (Int.toNat (S0.deep - (1 : Int))) ({ x23 with acc := z2.n }))) hO eH82 (flat_set1 lenTally (i := Int.toNat (S0.deep - (1 : Int))) (j := 3) g24.2.2 (by decide) (zo _ 3) rfl)
                        replace hO := close_V L0 ({ S0 with folds := (List.set S0.folds (Int.toNat (S0.deep - (1 : Int))) ({ x23 with acc := z2.n })) }) (hO)
                        replace hO := dr1 (hO)
                        exact ⟨({ S0 with folds := (List.set S0.folds (Int.toNat (S0.deep - (1 : Int))) ({ x23 with acc := z2.n })) }), hO, h⟩

                      · replace h := ifFd w81 h
                        replace hO := close_V L0 S0 (hO)
                        replace hO := dr1 (hO)
                        exact ⟨S0, hO, h⟩


                    · replace h := ifTd w78 h
                      replace hO := open_V (pu0 hO)
                      refine ⟨(some ⟨L0.folds, 0, none⟩), 24, 24, ((hO.blk (.head _)).rdv rfl), ?_⟩
                      refine ⟨z2.n, ((hO.blk (.tail _ (.tail _ (.tail _ (.tail _ (.tail _ (.tail _ (.head _)))))))).rdv rfl), ?_⟩
                      refine ⟨_, _, rfl, g24.1, g24.2.1, rfl, ?_⟩
                      refine ⟨((hO.arr (.tail _ (.tail _ (.tail _ (.tail _ (.tail _ (.head _))))))).wr1 lenTally (i := Int.toNat (S0.deep - (1 : Int))) (j := 3) (getLt g24.2.2) (Nat.le_of_ble_eq_true rfl) (zo _ 3)), ?_⟩
                      intro H83 eH83
                      replace hO := os5 (l' := List.flatMap encTally (List.set S0.folds (Int.toNat (S0.deep - (1 : Int))) ({ x23 with acc := z2.n }))) hO eH83 (flat_set1 lenTally (i := Int.toNat (S0.deep - (1 : Int))) (j := 3) g24.2.2 (by decide) (zo _ 3) rfl)
                      replace hO := close_V L0 ({ S0 with folds := (List.set S0.folds (Int.toNat (S0.deep - (1 : Int))) ({ x23 with acc := z2.n })) }) (hO)
                      replace hO := dr1 (hO)
                      exact ⟨({ S0 with folds := (List.set S0.folds (Int.toNat (S0.deep - (1 : Int))) ({ x23 with acc := z2.n })) }), hO, h⟩


                  · replace h := ifFd w77 h
                    refine ⟨fun w84 => ?_, fun w85 => ?_⟩
                    · replace h := ifTd w84 h
                      refine ⟨fun w87 => ?_, fun w86 => ?_⟩
                      · replace h := ifFd w87 h
                        refine ⟨z2.n, ((hO.blk (.tail _ (.head _))).rdv rfl), ?_⟩
                        replace hO := open_V (pu0 hO)
                        refine ⟨(some ⟨L0.folds, 0, none⟩), 24, 24, ((hO.blk (.head _)).rdv rfl), ?_⟩
                        refine ⟨_, _, rfl, g24.1, g24.2.1, rfl, ?_⟩
                        refine ⟨x23.acc, ((hO.arr (.tail _ (.tail _ (.tail _ (.tail _ (.tail _ (.head _))))))).rd (i := Int.toNat (S0.deep - (1 : Int))) (j := 3) lenTally g24.2.2 (by decide) (zo _ 3) rfl), ?_⟩
                        refine ⟨fun w88 => ?_, fun w89 => ?_⟩
                        · replace h := ifTd w88 h
                          refine ⟨(some ⟨L0.folds, 0, none⟩), 24, 24, ((hO.blk (.head _)).rdv rfl), ?_⟩
                          refine ⟨z2.n, ((hO.blk (.tail _ (.tail _ (.tail _ (.tail _ (.tail _ (.tail _ (.head _)))))))).rdv rfl), ?_⟩
                          refine ⟨_, _, rfl, g24.1, g24.2.1, rfl, ?_⟩
                          refine ⟨((hO.arr (.tail _ (.tail _ (.tail _ (.tail _ (.tail _ (.head _))))))).wr1 lenTally (i := Int.toNat (S0.deep - (1 : Int))) (j := 3) (getLt g24.2.2) (Nat.le_of_ble_eq_true rfl) (zo _ 3)), ?_⟩
                          intro H90 eH90
                          replace hO := os5 (l' := List.flatMap encTally (List.set S0.folds (Int.toNat (S0.deep - (1 : Int))) ({ x23 with acc := z2.n }))) hO eH90 (flat_set1 lenTally (i := Int.toNat (S0.deep - (1 : Int))) (j := 3) g24.2.2 (by decide) (zo _ 3) rfl)
                          replace hO := close_V L0 ({ S0 with folds := (List.set S0.folds (Int.toNat (S0.deep - (1 : Int))) ({ x23 with acc := z2.n })) }) (hO)
                          replace hO := dr1 (hO)
                          exact ⟨({ S0 with folds := (List.set S0.folds (Int.toNat (S0.deep - (1 : Int))) ({ x23 with acc := z2.n })) }), hO, h⟩

                        · replace h := ifFd w89 h
                          replace hO := close_V L0 S0 (hO)
                          replace hO := dr1 (hO)
                          exact ⟨S0, hO, h⟩


                      · replace h := ifTd w86 h
                        replace hO := open_V (pu0 hO)
                        refine ⟨(some ⟨L0.folds, 0, none⟩), 24, 24, ((hO.blk (.head _)).rdv rfl), ?_⟩
                        refine ⟨z2.n, ((hO.blk (.tail _ (.tail _ (.tail _ (.tail _ (.tail _ (.tail _ (.head _)))))))).rdv rfl), ?_⟩
                        refine ⟨_, _, rfl, g24.1, g24.2.1, rfl, ?_⟩
                        refine ⟨((hO.arr (.tail _ (.tail _ (.tail _ (.tail _ (.tail _ (.head _))))))).wr1 lenTally (i := Int.toNat (S0.deep - (1 : Int))) (j := 3) (getLt g24.2.2) (Nat.le_of_ble_eq_true rfl) (zo _ 3)), ?_⟩
                        intro H91 eH91
                        replace hO := os5 (l' := List.flatMap encTally (List.set S0.folds (Int.toNat (S0.deep - (1 : Int))) ({ x23 with acc := z2.n }))) hO eH91 (flat_set1 lenTally (i := Int.toNat (S0.deep - (1 : Int))) (j := 3) g24.2.2 (by decide) (zo _ 3) rfl)
                        replace hO := close_V L0 ({ S0 with folds := (List.set S0.folds (Int.toNat (S0.deep - (1 : Int))) ({ x23 with acc := z2.n })) }) (hO)
                        replace hO := dr1 (hO)
                        exact ⟨({ S0 with folds := (List.set S0.folds (Int.toNat (S0.deep - (1 : Int))) ({ x23 with acc := z2.n })) }), hO, h⟩


                    · replace h := ifFd w85 h
                      replace hO := dr1 (hO)
                      exact ⟨S0, hO, h⟩




              · clear hO h
                intro H66 u67  hJ
                obtain ⟨S65, hO, h⟩ := hJ
                replace h : (k223_1 S0 S65) = some r_ := h
                unfold k223_1 at h
                replace hO := open_V (pu0 hO)
                refine ⟨(some ⟨L0.folds, 0, none⟩), 24, 24, ((hO.blk (.head _)).rdv rfl), ?_⟩
                obtain ⟨x68, g69, h⟩ := getS h
                refine ⟨_, _, rfl, g69.1, g69.2.1, rfl, ?_⟩
                refine ⟨x68.count, ((hO.arr (.tail _ (.tail _ (.tail _ (.tail _ (.tail _ (.head _))))))).rd (i := Int.toNat (S0.deep - (1 : Int))) (j := 4) lenTally g69.2.2 (by decide) (zo _ 4) rfl), ?_⟩
                obtain ⟨q70, h⟩ := ckS h
                refine ⟨_, .inl ⟨q70, rfl⟩, ?_⟩
                refine ⟨_, _, rfl, g69.1, g69.2.1, rfl, ?_⟩
                refine ⟨((hO.arr (.tail _ (.tail _ (.tail _ (.tail _ (.tail _ (.head _))))))).wr1 lenTally (i := Int.toNat (S0.deep - (1 : Int))) (j := 4) (getLt g69.2.2) (Nat.le_of_ble_eq_true rfl) (zo _ 4)), ?_⟩
                intro H71 eH71
                replace hO := os5 (l' := List.flatMap encTally (List.set S65.folds (Int.toNat (S0.deep - (1 : Int))) ({ x68 with count := x68.count + (1 : Int) }))) hO eH71 (flat_set1 lenTally (i := Int.toNat (S0.deep - (1 : Int))) (j := 4) g69.2.2 (by decide) (zo _ 4) rfl)
                replace hO := close_V L0 ({ S65 with folds := (List.set S65.folds (Int.toNat (S0.deep - (1 : Int))) ({ x68 with count := x68.count + (1 : Int) })) }) (hO)
                obtain rfl := Option.some.inj h
                exact hR _ hO





      · replace h := ifTd w30 h
        refine ⟨z2.kind, ((hO.blk (.tail _ (.tail _ (.tail _ (.tail _ (.tail _ (.tail _ (.head _)))))))).rdv rfl), ?_⟩
        refine ⟨fun w92 => ?_, fun w93 => ?_⟩
        · replace w92 := bnotT w92
          replace h := ifFd w92 h
          refine ⟨?_, ?_⟩
          · refine ⟨(some ⟨L0.folds, 0, none⟩), 24, 24, ((hO.blk (.head _)).rdv rfl), ?_⟩
            refine c131 (5 : Int) _ rfl _ _ _ (fr0 hO) (fun H96 hO => ?_)
            replace hO := un0 hO
            refine ⟨(s131 (5 : Int)), rfl, ?_⟩
            refine ⟨_, _, rfl, g24.1, g24.2.1, rfl, ?_⟩
            refine ⟨((hO.arr (.tail _ (.tail _ (.tail _ (.tail _ (.tail _ (.head _))))))).wr1 lenTally (i := Int.toNat (S0.deep - (1 : Int))) (j := 0) (getLt g24.2.2) (Nat.le_of_ble_eq_true rfl) (zo0 _)), ?_⟩
            intro H97 eH97
            replace hO := oz5 (l' := List.flatMap encTally (List.set S0.folds (Int.toNat (S0.deep - (1 : Int))) ({ x23 with bad := (s131 (5 : Int)) }))) hO eH97 (flat_sub1 lenTally (i := Int.toNat (S0.deep - (1 : Int))) (j := 0) g24.2.2 (Nat.le_of_ble_eq_true rfl) (by simp [encVal, encRef]) (zo0 _) rfl)
            replace hO := close_V L0 ({ S0 with folds := (List.set S0.folds (Int.toNat (S0.deep - (1 : Int))) ({ x23 with bad := (s131 (5 : Int)) })) }) (hO)
            obtain rfl := Option.some.inj h
            exact hR _ (dr1 (hO))

          · refine c131 (5 : Int) _ rfl _ _ _ (fr0 hO) (fun H98 hO => ?_)
            replace hO := un0 hO
            refine ⟨(s131 (5 : Int)), rfl, ?_⟩
            refine ⟨(some ⟨L0.folds, 0, none⟩), 24, 24, ((hO.blk (.head _)).rdv rfl), ?_⟩
            refine ⟨_, _, rfl, g24.1, g24.2.1, rfl, ?_⟩
            refine ⟨((hO.arr (.tail _ (.tail _ (.tail _ (.tail _ (.tail _ (.head _))))))).wr1 lenTally (i := Int.toNat (S0.deep - (1 : Int))) (j := 0) (getLt g24.2.2) (Nat.le_of_ble_eq_true rfl) (zo0 _)), ?_⟩
            intro H99 eH99
            replace hO := oz5 (l' := List.flatMap encTally (List.set S0.folds (Int.toNat (S0.deep - (1 : Int))) ({ x23 with bad := (s131 (5 : Int)) }))) hO eH99 (flat_sub1 lenTally (i := Int.toNat (S0.deep - (1 : Int))) (j := 0) g24.2.2 (Nat.le_of_ble_eq_true rfl) (by simp [encVal, encRef]) (zo0 _) rfl)
            replace hO := close_V L0 ({ S0 with folds := (List.set S0.folds (Int.toNat (S0.deep - (1 : Int))) ({ x23 with bad := (s131 (5 : Int)) })) }) (hO)
            obtain rfl := Option.some.inj h
            exact hR _ (dr1 (hO))


        · replace w93 := bnotF w93
          replace h := ifTd w93 h
          refine ⟨z2.n, ((hO.blk (.tail _ (.tail _ (.tail _ (.tail _ (.tail _ (.tail _ (.head _)))))))).rdv rfl), ?_⟩
          refine ⟨fun w100 => ?_, fun w101 => ?_⟩
          · replace h := ifTb w100 h
            refine ⟨(some ⟨L0.folds, 0, none⟩), 24, 24, ((hO.blk (.head _)).rdv rfl), ?_⟩
            refine ⟨_, _, rfl, g24.1, g24.2.1, rfl, ?_⟩
            refine ⟨((hO.arr (.tail _ (.tail _ (.tail _ (.tail _ (.tail _ (.head _))))))).wr1 lenTally (i := Int.toNat (S0.deep - (1 : Int))) (j := 3) (getLt g24.2.2) (Nat.le_of_ble_eq_true rfl) (zo _ 3)), ?_⟩
            intro H102 eH102
            replace hO := os5 (l' := List.flatMap encTally (List.set S0.folds (Int.toNat (S0.deep - (1 : Int))) ({ x23 with acc := (1 : Int) }))) hO eH102 (flat_set1 lenTally (i := Int.toNat (S0.deep - (1 : Int))) (j := 3) g24.2.2 (by decide) (zo _ 3) rfl)
            replace hO := close_V L0 ({ S0 with folds := (List.set S0.folds (Int.toNat (S0.deep - (1 : Int))) ({ x23 with acc := (1 : Int) })) }) (hO)
            obtain rfl := Option.some.inj h
            exact hR _ (dr1 (hO))

          · replace h := ifFb w101 h
            replace hO := close_V L0 S0 (hO)
            obtain rfl := Option.some.inj h
            exact hR _ (dr1 (hO))







theorem c224 (n_ : Nat) (z0 : Nat) (L0 : VL) (S0 : VS) (z1 : Int) (z2 : BitVec 32) (b3 : Nat) (a3 : List ValT) (m3 c3 : Nat) (r_ : VS) (h : s224 n_ S0 z1 z2 a3 m3 = some r_) (F : List Ent) (H : Heap) (R : Value → Heap → Prop)
    (hO : Own H [oV z0 L0 S0, cellE 94 b3 (List.flatMap encVal a3)] F)
    (hR : ∀ (H' : Heap) , Own H' [oV z0 L0 r_, cellE 94 b3 (List.flatMap encVal a3)] F → R (.tuple #[]) H') :
    HCalls Tryz.prog 224 #[Value.pointer (some ⟨z0, 0, none⟩), I z1, Value.int .u32 (z2.toNat : Int), Value.slice (some ⟨b3, 0, none⟩) m3 c3] H R := by
  refine vc224 z0 z1 z2 (some ⟨b3, 0, none⟩) m3 c3 H R ?_
  unfold s224 at h
  refine ⟨fun l Hc => ∃ m : Nat, ∃ S44 : VS, Own Hc [oV z0 L0 S44, cellE 94 b3 (List.flatMap encVal a3)] F ∧ (l224_3 n_ z1 z2 a3 m3 m (asI (nth l 0)) S44) = some r_, fun l Hc => Classical.epsilon <| lsp fun m => ∃ S44 : VS, Own Hc [oV z0 L0 S44, cellE 94 b3 (List.flatMap encVal a3)] F ∧ (l224_3 n_ z1 z2 a3 m3 m (asI (nth l 0)) S44) = some r_, ?_, ?_⟩
  · exact ⟨n_, S0, hO, h⟩
  · clear hO h
    intro H45 u46 x47 hJ
    obtain ⟨m78, hm49, hJ⟩ := lst_get hJ
    obtain ⟨S44, hO, h⟩ := hJ
    rcases m78 with _ | k77
    · exact absurd h (by simp [l224_3, asI, asB, asC, asS])
    obtain ⟨rec48, hrec48, h⟩ : ∃ f_, f_ = l224_3 n_ z1 z2 a3 m3 k77 ∧ (l224_3_st n_ z1 z2 a3 m3 f_ x47 S44) = some r_ := ⟨_, rfl, h⟩
    unfold l224_3_st at h
    refine ⟨fun w50 => ?_, fun w51 => ?_⟩
    · replace h := ifTd w50 h
      refine ⟨fun l Hc => ∃ S64 : VS, Own Hc [oV z0 L0 S64, cellE 94 b3 (List.flatMap encVal a3)] F ∧ (k224_2 x47 rec48 S64) = some r_, ?_, ?_⟩
      · obtain ⟨q68, h⟩ := ckS h
        refine ⟨q68, ?_⟩
        obtain ⟨q69, h⟩ := ckS h
        refine ⟨z2, rfl, q69, ?_⟩
        refine ⟨(z2 >>> Int.toNat x47), (1 : BitVec 32), rfl, rfl, ?_⟩
        refine ⟨fun w70 => ?_, fun w71 => ?_⟩
        · replace h := ifTd w70 h
          obtain ⟨x72, g73, h⟩ := getS h
          refine ⟨_, _, rfl, g73.1, g73.2.1, rfl, ?_⟩
          refine ⟨x72, (hO.arr (.tail _ (.head _))).row (i := Int.toNat x47) lenVal g73.2.2 (Nat.zero_add _), ?_⟩
          obtain ⟨r74, e75, h⟩ := bindS h
          refine c223 z0 L0 S44 z1 x72 true r74 e75 _ _ _ (fr1 hO) (fun H76 hO => ?_)
          replace hO := un1 hO
          exact ⟨r74, hO, h⟩

        · replace h := ifFd w71 h
          exact ⟨S44, hO, h⟩


      · clear hO h
        intro H65 u66  hJ
        obtain ⟨S64, hO, h⟩ := hJ
        replace h : (k224_2 x47 rec48 S64) = some r_ := h
        unfold k224_2 at h
        obtain ⟨q67, h⟩ := ckS h
        refine ⟨_, .inl ⟨q67, rfl⟩, ?_⟩
        subst hrec48
        exact lst_step hm49 ⟨S64, hO, h⟩


    · replace h := ifFd w51 h
      obtain rfl := Option.some.inj h
      exact hR _ hO




theorem c225 (z0 : Nat) (L0 : VL) (S0 : VS) (z1 : Int) (r_ : VS × ValT) (h : s225 S0 z1 = some r_) (F : List Ent) (H : Heap) (R : Value → Heap → Prop)
    (hO : Own H [oV z0 L0 S0] F)
    (hR : ∀ (H' : Heap) , Own H' [oV z0 L0 r_.1] F → R (.agg ⟨encVal r_.2⟩) H') :
    HCalls Tryz.prog 225 #[Value.pointer (some ⟨z0, 0, none⟩), I z1] H R := by
  refine vc225 z0 z1 H R ?_
  unfold s225 at h
  intro H21 eH21
  replace hO := own_new (l := encVal (⟨(0 : Int), (0 : Int), ([] : List UInt8)⟩ : ValT)) hO eH21 rfl
  replace hO := open_V (pu1 hO)
  refine ⟨S0.deep, ((hO.blk (.head _)).rdv rfl), ?_⟩
  obtain ⟨q22, h⟩ := ckS h
  refine ⟨q22, ?_⟩
  refine ⟨(hO.blk (.head _)).wr (Nat.le_of_ble_eq_true rfl), ?_⟩
  intro H23 eH23
  replace hO := os0 (l' := [Value.pointer (some ⟨L0.f, 0, none⟩), Value.slice (some ⟨L0.code, 0, none⟩) 48 48, I S0.start, Value.int .u32 (S0.cells.toNat : Int), Value.slice (some ⟨L0.owner, 0, none⟩) 24 24, Value.slice (some ⟨L0.stack, 0, none⟩) 24 24, I S0.top, Value.slice (some ⟨L0.folds, 0, none⟩) 24 24, I (S0.deep - (1 : Int))]) hO eH23 rfl
  refine ⟨(some ⟨L0.folds, 0, none⟩), 24, 24, ((hO.blk (.head _)).rdv rfl), ?_⟩
  refine ⟨(S0.deep - (1 : Int)), ((hO.blk (.head _)).rdv rfl), ?_⟩
  obtain ⟨x24, g25, h⟩ := getS h
  refine ⟨_, _, rfl, g25.1, g25.2.1, rfl, ?_⟩
  refine ⟨x24, (hO.arr (.tail _ (.tail _ (.tail _ (.tail _ (.tail _ (.head _))))))).row (i := Int.toNat (S0.deep - (1 : Int))) lenTally g25.2.2 (Nat.zero_add _), ?_⟩
  intro H26 eH26
  replace hO := own_new (l := encTally (⟨(⟨(0 : Int), (0 : Int), ([] : List UInt8)⟩ : ValT), (0 : Int), (0 : Int)⟩ : TallyT)) hO eH26 rfl
  refine ⟨(hO.blk (.head _)).wr (Nat.le_of_ble_eq_true rfl), ?_⟩
  intro H27 eH27
  replace hO := oz0 (l' := encTally x24) hO eH27 rfl
  refine ⟨x24.bad.kind, ((hO.blk (.head _)).rdv rfl), ?_⟩
  refine ⟨fun w28 => ?_, fun w29 => ?_⟩
  · replace h := ifTd w28 h
    refine ⟨x24.bad, (hO.blk (.head _)).rowT rfl, ?_⟩
    refine ⟨(hO.blk (.tail _ (.tail _ (.tail _ (.tail _ (.tail _ (.tail _ (.tail _ (.head _))))))))).wr (Nat.le_of_ble_eq_true rfl), ?_⟩
    intro H30 eH30
    replace hO := oz7 (l' := encVal x24.bad) hO eH30 rfl
    refine ⟨x24.bad, (hO.blk (.tail _ (.tail _ (.tail _ (.tail _ (.tail _ (.tail _ (.tail _ (.head _))))))))).rowT rfl, ?_⟩
    replace hO := close_V L0 ({ S0 with deep := S0.deep - (1 : Int) }) (pu6 (pu6 (pu6 (pu6 (pu6 (pu6 hO))))))
    obtain rfl := Option.some.inj h
    exact hR _ (dr1 (dr1 (hO)))

  · replace h := ifFd w29 h
    refine ⟨fun w31 => ?_, fun w32 => ?_⟩
    · replace h := ifTd w31 h
      refine ⟨x24.acc, ((hO.blk (.head _)).rdv rfl), ?_⟩
      refine c238 x24.acc _ rfl _ _ _ (fr0 hO) (fun H33 hO => ?_)
      replace hO := un0 hO
      refine ⟨(s238 x24.acc), rfl, ?_⟩
      refine ⟨(hO.blk (.tail _ (.tail _ (.tail _ (.tail _ (.tail _ (.tail _ (.tail _ (.head _))))))))).wr (Nat.le_of_ble_eq_true rfl), ?_⟩
      intro H34 eH34
      replace hO := oz7 (l' := encVal (s238 x24.acc)) hO eH34 rfl
      refine ⟨(s238 x24.acc), (hO.blk (.tail _ (.tail _ (.tail _ (.tail _ (.tail _ (.tail _ (.tail _ (.head _))))))))).rowT rfl, ?_⟩
      replace hO := close_V L0 ({ S0 with deep := S0.deep - (1 : Int) }) (pu6 (pu6 (pu6 (pu6 (pu6 (pu6 hO))))))
      obtain rfl := Option.some.inj h
      exact hR _ (dr1 (dr1 (hO)))

    · replace h := ifFd w32 h
      refine ⟨fun w35 => ?_, fun w36 => ?_⟩
      · replace h := ifTd w35 h
        refine ⟨x24.acc, ((hO.blk (.head _)).rdv rfl), ?_⟩
        refine c200 x24.acc _ rfl _ _ _ (fr0 hO) (fun H37 hO => ?_)
        replace hO := un0 hO
        refine ⟨(s200 x24.acc), rfl, ?_⟩
        refine ⟨(hO.blk (.tail _ (.tail _ (.tail _ (.tail _ (.tail _ (.tail _ (.tail _ (.head _))))))))).wr (Nat.le_of_ble_eq_true rfl), ?_⟩
        intro H38 eH38
        replace hO := oz7 (l' := encVal (s200 x24.acc)) hO eH38 rfl
        refine ⟨(s200 x24.acc), (hO.blk (.tail _ (.tail _ (.tail _ (.tail _ (.tail _ (.tail _ (.tail _ (.head _))))))))).rowT rfl, ?_⟩
        replace hO := close_V L0 ({ S0 with deep := S0.deep - (1 : Int) }) (pu6 (pu6 (pu6 (pu6 (pu6 (pu6 hO))))))
        obtain rfl := Option.some.inj h
        exact hR _ (dr1 (dr1 (hO)))

      · replace h := ifFd w36 h
        refine ⟨fun w39 => ?_, fun w40 => ?_⟩
        · replace h := ifTd w39 h
          refine ⟨x24.acc, ((hO.blk (.head _)).rdv rfl), ?_⟩
          refine c200 x24.acc _ rfl _ _ _ (fr0 hO) (fun H41 hO => ?_)
          replace hO := un0 hO
          refine ⟨(s200 x24.acc), rfl, ?_⟩
          refine ⟨(hO.blk (.tail _ (.tail _ (.tail _ (.tail _ (.tail _ (.tail _ (.tail _ (.head _))))))))).wr (Nat.le_of_ble_eq_true rfl), ?_⟩
          intro H42 eH42
          replace hO := oz7 (l' := encVal (s200 x24.acc)) hO eH42 rfl
          refine ⟨(s200 x24.acc), (hO.blk (.tail _ (.tail _ (.tail _ (.tail _ (.tail _ (.tail _ (.tail _ (.head _))))))))).rowT rfl, ?_⟩
          replace hO := close_V L0 ({ S0 with deep := S0.deep - (1 : Int) }) (pu6 (pu6 (pu6 (pu6 (pu6 (pu6 hO))))))
          obtain rfl := Option.some.inj h
          exact hR _ (dr1 (dr1 (hO)))

        · replace h := ifFd w40 h
          refine ⟨fun w43 => ?_, fun w44 => ?_⟩
          · replace h := ifTd w43 h
            refine ⟨x24.count, ((hO.blk (.head _)).rdv rfl), ?_⟩
            refine c200 x24.count _ rfl _ _ _ (fr0 hO) (fun H45 hO => ?_)
            replace hO := un0 hO
            refine ⟨(s200 x24.count), rfl, ?_⟩
            refine ⟨(hO.blk (.tail _ (.tail _ (.tail _ (.tail _ (.tail _ (.tail _ (.tail _ (.head _))))))))).wr (Nat.le_of_ble_eq_true rfl), ?_⟩
            intro H46 eH46
            replace hO := oz7 (l' := encVal (s200 x24.count)) hO eH46 rfl
            refine ⟨(s200 x24.count), (hO.blk (.tail _ (.tail _ (.tail _ (.tail _ (.tail _ (.tail _ (.tail _ (.head _))))))))).rowT rfl, ?_⟩
            replace hO := close_V L0 ({ S0 with deep := S0.deep - (1 : Int) }) (pu6 (pu6 (pu6 (pu6 (pu6 (pu6 hO))))))
            obtain rfl := Option.some.inj h
            exact hR _ (dr1 (dr1 (hO)))

          · replace h := ifFd w44 h
            refine ⟨x24.acc, ((hO.blk (.head _)).rdv rfl), ?_⟩
            refine c232 ((decide (x24.acc = (1 : Int))) == (decide (z1 = (7 : Int)))) _ rfl _ _ _ (fr0 hO) (fun H47 hO => ?_)
            replace hO := un0 hO
            refine ⟨(s232 ((decide (x24.acc = (1 : Int))) == (decide (z1 = (7 : Int))))), rfl, ?_⟩
            refine ⟨(hO.blk (.tail _ (.tail _ (.tail _ (.tail _ (.tail _ (.tail _ (.tail _ (.head _))))))))).wr (Nat.le_of_ble_eq_true rfl), ?_⟩
            intro H48 eH48
            replace hO := oz7 (l' := encVal (s232 ((decide (x24.acc = (1 : Int))) == (decide (z1 = (7 : Int)))))) hO eH48 rfl
            refine ⟨(s232 ((decide (x24.acc = (1 : Int))) == (decide (z1 = (7 : Int))))), (hO.blk (.tail _ (.tail _ (.tail _ (.tail _ (.tail _ (.tail _ (.tail _ (.head _))))))))).rowT rfl, ?_⟩
            replace hO := close_V L0 ({ S0 with deep := S0.deep - (1 : Int) }) (pu6 (pu6 (pu6 (pu6 (pu6 (pu6 hO))))))
            obtain rfl := Option.some.inj h
            exact hR _ (dr1 (dr1 (hO)))







theorem c201 (n_ : Nat) (z0 : Nat) (L0 : VL) (S0 : VS) (z1 : InstrT) (b2 : Nat) (a2 : List ValT) (m2 c2 : Nat) (r_ : VS) (h : s201 n_ S0 z1 a2 m2 = some r_) (F : List Ent) (H : Heap) (R : Value → Heap → Prop)
    (hO : Own H [oV z0 L0 S0, cellE 94 b2 (List.flatMap encVal a2)] F)
    (hR : ∀ (H' : Heap) , Own H' [oV z0 L0 r_, cellE 94 b2 (List.flatMap encVal a2)] F → R (.tuple #[]) H') :
    HCalls Tryz.prog 201 #[Value.pointer (some ⟨z0, 0, none⟩), Value.agg ⟨encInstr z1⟩, Value.slice (some ⟨b2, 0, none⟩) m2 c2] H R := by
  refine vc201 z0 z1 (some ⟨b2, 0, none⟩) m2 c2 H R ?_
  unfold s201 at h
  intro H21 eH21
  replace hO := own_new (l := encInstr z1) hO eH21 rfl
  refine ⟨z1.do_, ((hO.blk (.head _)).rdv rfl), ?_⟩
  refine ⟨fun w22 => ?_, fun w23 => ?_⟩
  · replace h := ifTd w22 h
    refine ⟨z1.v, (hO.blk (.head _)).rowT rfl, ?_⟩
    obtain ⟨r24, e25, h⟩ := bindS h
    refine c219 z0 L0 S0 z1.v r24 e25 _ _ _ (fr1 (pu1 hO)) (fun H26 hO => ?_)
    replace hO := un1 hO
    obtain rfl := Option.some.inj h
    exact hR _ (dr2 (pu1 (pu2 hO)))

  · replace h := ifFd w23 h
    refine ⟨fun w27 => ?_, fun w28 => ?_⟩
    · replace h := ifTd w27 h
      refine ⟨z1.a, ((hO.blk (.head _)).rdv rfl), ?_⟩
      obtain ⟨x29, g30, h⟩ := getS h
      refine ⟨_, _, rfl, g30.1, g30.2.1, rfl, ?_⟩
      refine ⟨x29, (hO.arr (.tail _ (.tail _ (.head _)))).row (i := Int.toNat z1.a) lenVal g30.2.2 (Nat.zero_add _), ?_⟩
      obtain ⟨r31, e32, h⟩ := bindS h
      refine c219 z0 L0 S0 x29 r31 e32 _ _ _ (fr1 (pu1 hO)) (fun H33 hO => ?_)
      replace hO := un1 hO
      obtain rfl := Option.some.inj h
      exact hR _ (dr2 (pu1 (pu2 hO)))

    · replace h := ifFd w28 h
      refine ⟨fun w34 => ?_, fun w35 => ?_⟩
      · replace h := ifTd w34 h
        obtain ⟨r36, e37, h⟩ := bindS h
        refine c202 z0 L0 S0 r36 e37 _ _ _ (fr1 (pu1 hO)) (fun H38 hO => ?_)
        replace hO := un1 hO
        refine ⟨r36.2, rfl, ?_⟩
        intro H39 eH39
        replace hO := own_new (l := encVal (⟨(0 : Int), (0 : Int), ([] : List UInt8)⟩ : ValT)) hO eH39 rfl
        refine ⟨(hO.blk (.head _)).wr (Nat.le_of_ble_eq_true rfl), ?_⟩
        intro H40 eH40
        replace hO := oz0 (l' := encVal r36.2) hO eH40 rfl
        refine ⟨z1.a, ((hO.blk (.tail _ (.tail _ (.head _)))).rdv rfl), ?_⟩
        refine ⟨r36.2, (hO.blk (.head _)).rowT rfl, ?_⟩
        obtain ⟨r41, e42, h⟩ := bindS h
        refine c220 z1.a r36.2 r41 e42 _ _ _ (fr0 hO) (fun H43 hO => ?_)
        replace hO := un0 hO
        refine ⟨r41, rfl, ?_⟩
        intro H44 eH44
        replace hO := own_new (l := encVal (⟨(0 : Int), (0 : Int), ([] : List UInt8)⟩ : ValT)) hO eH44 rfl
        refine ⟨(hO.blk (.head _)).wr (Nat.le_of_ble_eq_true rfl), ?_⟩
        intro H45 eH45
        replace hO := oz0 (l' := encVal r41) hO eH45 rfl
        refine ⟨r41, (hO.blk (.head _)).rowT rfl, ?_⟩
        obtain ⟨r46, e47, h⟩ := bindS h
        refine c219 z0 L0 r36.1 r41 r46 e47 _ _ _ (fr1 (pu2 hO)) (fun H48 hO => ?_)
        replace hO := un1 hO
        obtain rfl := Option.some.inj h
        exact hR _ (dr2 (dr2 (dr2 (pu1 (pu4 hO)))))

      · replace h := ifFd w35 h
        refine ⟨fun w49 => ?_, fun w50 => ?_⟩
        · replace h := ifTd w49 h
          obtain ⟨r51, e52, h⟩ := bindS h
          refine c202 z0 L0 S0 r51 e52 _ _ _ (fr1 (pu1 hO)) (fun H53 hO => ?_)
          replace hO := un1 hO
          refine ⟨r51.2, rfl, ?_⟩
          intro H54 eH54
          replace hO := own_new (l := encVal (⟨(0 : Int), (0 : Int), ([] : List UInt8)⟩ : ValT)) hO eH54 rfl
          refine ⟨(hO.blk (.head _)).wr (Nat.le_of_ble_eq_true rfl), ?_⟩
          intro H55 eH55
          replace hO := oz0 (l' := encVal r51.2) hO eH55 rfl
          obtain ⟨r56, e57, h⟩ := bindS h
          refine c202 z0 L0 r51.1 r56 e57 _ _ _ (fr1 (pu1 hO)) (fun H58 hO => ?_)
          replace hO := un1 hO
          refine ⟨r56.2, rfl, ?_⟩
          intro H59 eH59
          replace hO := own_new (l := encVal (⟨(0 : Int), (0 : Int), ([] : List UInt8)⟩ : ValT)) hO eH59 rfl
          refine ⟨(hO.blk (.head _)).wr (Nat.le_of_ble_eq_true rfl), ?_⟩
          intro H60 eH60
          replace hO := oz0 (l' := encVal r56.2) hO eH60 rfl
          refine ⟨z1.a, ((hO.blk (.tail _ (.tail _ (.tail _ (.head _))))).rdv rfl), ?_⟩
          refine ⟨r56.2, (hO.blk (.head _)).rowT rfl, ?_⟩
          refine ⟨r51.2, (hO.blk (.tail _ (.tail _ (.head _)))).rowT rfl, ?_⟩
          obtain ⟨r61, e62, h⟩ := bindS h
          refine c221 z1.a r56.2 r51.2 r61 e62 _ _ _ (fr0 hO) (fun H63 hO => ?_)
          replace hO := un0 hO
          refine ⟨r61, rfl, ?_⟩
          intro H64 eH64
          replace hO := own_new (l := encVal (⟨(0 : Int), (0 : Int), ([] : List UInt8)⟩ : ValT)) hO eH64 rfl
          refine ⟨(hO.blk (.head _)).wr (Nat.le_of_ble_eq_true rfl), ?_⟩
          intro H65 eH65
          replace hO := oz0 (l' := encVal r61) hO eH65 rfl
          refine ⟨r61, (hO.blk (.head _)).rowT rfl, ?_⟩
          obtain ⟨r66, e67, h⟩ := bindS h
          refine c219 z0 L0 r56.1 r61 r66 e67 _ _ _ (fr1 (pu2 hO)) (fun H68 hO => ?_)
          replace hO := un1 hO
          obtain rfl := Option.some.inj h
          exact hR _ (dr2 (dr2 (dr2 (dr2 (pu1 (pu5 hO))))))

        · replace h := ifFd w50 h
          refine ⟨fun w69 => ?_, fun w70 => ?_⟩
          · replace h := ifTd w69 h
            obtain ⟨r71, e72, h⟩ := bindS h
            refine c202 z0 L0 S0 r71 e72 _ _ _ (fr1 (pu1 hO)) (fun H73 hO => ?_)
            replace hO := un1 hO
            refine ⟨r71.2, rfl, ?_⟩
            intro H74 eH74
            replace hO := own_new (l := encVal (⟨(0 : Int), (0 : Int), ([] : List UInt8)⟩ : ValT)) hO eH74 rfl
            refine ⟨(hO.blk (.head _)).wr (Nat.le_of_ble_eq_true rfl), ?_⟩
            intro H75 eH75
            replace hO := oz0 (l' := encVal r71.2) hO eH75 rfl
            obtain ⟨r76, e77, h⟩ := bindS h
            refine c202 z0 L0 r71.1 r76 e77 _ _ _ (fr1 (pu1 hO)) (fun H78 hO => ?_)
            replace hO := un1 hO
            refine ⟨r76.2, rfl, ?_⟩
            intro H79 eH79
            replace hO := own_new (l := encVal (⟨(0 : Int), (0 : Int), ([] : List UInt8)⟩ : ValT)) hO eH79 rfl
            refine ⟨(hO.blk (.head _)).wr (Nat.le_of_ble_eq_true rfl), ?_⟩
            intro H80 eH80
            replace hO := oz0 (l' := encVal r76.2) hO eH80 rfl
            obtain ⟨r81, e82, h⟩ := bindS h
            refine c202 z0 L0 r76.1 r81 e82 _ _ _ (fr1 (pu1 hO)) (fun H83 hO => ?_)
            replace hO := un1 hO
            refine ⟨r81.2, rfl, ?_⟩
            intro H84 eH84
            replace hO := own_new (l := encVal (⟨(0 : Int), (0 : Int), ([] : List UInt8)⟩ : ValT)) hO eH84 rfl
            refine ⟨(hO.blk (.head _)).wr (Nat.le_of_ble_eq_true rfl), ?_⟩
            intro H85 eH85
            replace hO := oz0 (l' := encVal r81.2) hO eH85 rfl
            refine ⟨r81.2, (hO.blk (.head _)).rowT rfl, ?_⟩
            refine ⟨r76.2, (hO.blk (.tail _ (.tail _ (.head _)))).rowT rfl, ?_⟩
            refine ⟨r71.2, (hO.blk (.tail _ (.tail _ (.tail _ (.head _))))).rowT rfl, ?_⟩
            refine c222 r81.2 r76.2 r71.2 _ rfl _ _ _ (fr0 hO) (fun H86 hO => ?_)
            replace hO := un0 hO
            refine ⟨(s222 r81.2 r76.2 r71.2), rfl, ?_⟩
            intro H87 eH87
            replace hO := own_new (l := encVal (⟨(0 : Int), (0 : Int), ([] : List UInt8)⟩ : ValT)) hO eH87 rfl
            refine ⟨(hO.blk (.head _)).wr (Nat.le_of_ble_eq_true rfl), ?_⟩
            intro H88 eH88
            replace hO := oz0 (l' := encVal (s222 r81.2 r76.2 r71.2)) hO eH88 rfl
            refine ⟨(s222 r81.2 r76.2 r71.2), (hO.blk (.head _)).rowT rfl, ?_⟩
            obtain ⟨r89, e90, h⟩ := bindS h
            refine c219 z0 L0 r81.1 (s222 r81.2 r76.2 r71.2) r89 e90 _ _ _ (fr1 (pu2 hO)) (fun H91 hO => ?_)
            replace hO := un1 hO
            obtain rfl := Option.some.inj h
            exact hR _ (dr2 (dr2 (dr2 (dr2 (dr2 (pu1 (pu6 hO)))))))

          · replace h := ifFd w70 h
            refine ⟨fun w92 => ?_, fun w93 => ?_⟩
            · replace h := ifTd w92 h
              replace hO := open_V (pu1 hO)
              refine ⟨(some ⟨L0.folds, 0, none⟩), 24, 24, ((hO.blk (.head _)).rdv rfl), ?_⟩
              refine ⟨S0.deep, ((hO.blk (.head _)).rdv rfl), ?_⟩
              obtain ⟨x94, g95, h⟩ := getS h
              refine ⟨_, _, rfl, g95.1, g95.2.1, rfl, ?_⟩
              refine ⟨((hO.arr (.tail _ (.tail _ (.tail _ (.tail _ (.tail _ (.head _))))))).wr1 lenTally (i := Int.toNat S0.deep) (j := 0) (getLt g95.2.2) (Nat.le_of_ble_eq_true rfl) (zo0 _)), ?_⟩
              intro H96 eH96
              replace hO := oz5 (l' := List.flatMap encTally (List.set S0.folds (Int.toNat S0.deep) (⟨(⟨(0 : Int), (0 : Int), ([] : List UInt8)⟩ : ValT), (0 : Int), (0 : Int)⟩ : TallyT))) hO eH96 (flat_put1 lenTally (i := Int.toNat S0.deep) (x := (⟨(⟨(0 : Int), (0 : Int), ([] : List UInt8)⟩ : ValT), (0 : Int), (0 : Int)⟩ : TallyT)) (getLt g95.2.2) (Nat.zero_add _))
              refine ⟨S0.deep, ((hO.blk (.head _)).rdv rfl), ?_⟩
              obtain ⟨q97, h⟩ := ckS h
              refine ⟨_, .inl ⟨q97, rfl⟩, ?_⟩
              refine ⟨(hO.blk (.head _)).wr (Nat.le_of_ble_eq_true rfl), ?_⟩
              intro H98 eH98
              replace hO := os0 (l' := [Value.pointer (some ⟨L0.f, 0, none⟩), Value.slice (some ⟨L0.code, 0, none⟩) 48 48, I S0.start, Value.int .u32 (S0.cells.toNat : Int), Value.slice (some ⟨L0.owner, 0, none⟩) 24 24, Value.slice (some ⟨L0.stack, 0, none⟩) 24 24, I S0.top, Value.slice (some ⟨L0.folds, 0, none⟩) 24 24, I (S0.deep + (1 : Int))]) hO eH98 rfl
              replace hO := close_V L0 ({ S0 with folds := (List.set S0.folds (Int.toNat S0.deep) (⟨(⟨(0 : Int), (0 : Int), ([] : List UInt8)⟩ : ValT), (0 : Int), (0 : Int)⟩ : TallyT)), deep := S0.deep + (1 : Int) }) (hO)
              obtain rfl := Option.some.inj h
              exact hR _ (dr2 (pu1 (pu2 hO)))

            · replace h := ifFd w93 h
              refine ⟨fun w99 => ?_, fun w100 => ?_⟩
              · replace h := ifTd w99 h
                obtain ⟨r101, e102, h⟩ := bindS h
                refine c202 z0 L0 S0 r101 e102 _ _ _ (fr1 (pu1 hO)) (fun H103 hO => ?_)
                replace hO := un1 hO
                refine ⟨r101.2, rfl, ?_⟩
                intro H104 eH104
                replace hO := own_new (l := encVal (⟨(0 : Int), (0 : Int), ([] : List UInt8)⟩ : ValT)) hO eH104 rfl
                refine ⟨(hO.blk (.head _)).wr (Nat.le_of_ble_eq_true rfl), ?_⟩
                intro H105 eH105
                replace hO := oz0 (l' := encVal r101.2) hO eH105 rfl
                refine ⟨z1.a, ((hO.blk (.tail _ (.tail _ (.head _)))).rdv rfl), ?_⟩
                refine ⟨r101.2, (hO.blk (.head _)).rowT rfl, ?_⟩
                obtain ⟨r106, e107, h⟩ := bindS h
                refine c223 z0 L0 r101.1 z1.a r101.2 false r106 e107 _ _ _ (fr1 (pu1 hO)) (fun H108 hO => ?_)
                replace hO := un1 hO
                obtain rfl := Option.some.inj h
                exact hR _ (dr2 (dr2 (pu1 (pu3 hO))))

              · replace h := ifFd w100 h
                refine ⟨fun w109 => ?_, fun w110 => ?_⟩
                · replace h := ifTd w109 h
                  refine ⟨z1.a, ((hO.blk (.head _)).rdv rfl), ?_⟩
                  refine ⟨z1.set, ((hO.blk (.head _)).rdv rfl), ?_⟩
                  obtain ⟨r111, e112, h⟩ := bindS h
                  refine c224 n_ z0 L0 S0 z1.a z1.set b2 a2 m2 c2 r111 e112 _ _ _ (fr2 (pu2 (pu2 hO))) (fun H113 hO => ?_)
                  replace hO := un2 hO
                  obtain rfl := Option.some.inj h
                  exact hR _ (dr2 (hO))

                · replace h := ifFd w110 h
                  refine ⟨fun w114 => ?_, fun w115 => ?_⟩
                  · replace h := ifTd w114 h
                    refine c131 (2 : Int) _ rfl _ _ _ (fr0 hO) (fun H116 hO => ?_)
                    replace hO := un0 hO
                    refine ⟨(s131 (2 : Int)), rfl, ?_⟩
                    intro H117 eH117
                    replace hO := own_new (l := encVal (⟨(0 : Int), (0 : Int), ([] : List UInt8)⟩ : ValT)) hO eH117 rfl
                    refine ⟨(hO.blk (.head _)).wr (Nat.le_of_ble_eq_true rfl), ?_⟩
                    intro H118 eH118
                    replace hO := oz0 (l' := encVal (s131 (2 : Int))) hO eH118 rfl
                    refine ⟨z1.a, ((hO.blk (.tail _ (.head _))).rdv rfl), ?_⟩
                    refine ⟨(s131 (2 : Int)), (hO.blk (.head _)).rowT rfl, ?_⟩
                    obtain ⟨r119, e120, h⟩ := bindS h
                    refine c223 z0 L0 S0 z1.a (s131 (2 : Int)) true r119 e120 _ _ _ (fr1 (pu2 hO)) (fun H121 hO => ?_)
                    replace hO := un1 hO
                    obtain rfl := Option.some.inj h
                    exact hR _ (dr2 (dr2 (pu1 (pu3 hO))))

                  · replace h := ifFd w115 h
                    refine ⟨fun w122 => ?_, fun w123 => ?_⟩
                    · replace h := ifTd w122 h
                      refine ⟨z1.a, ((hO.blk (.head _)).rdv rfl), ?_⟩
                      obtain ⟨r124, e125, h⟩ := bindS h
                      refine c225 z0 L0 S0 z1.a r124 e125 _ _ _ (fr1 (pu1 hO)) (fun H126 hO => ?_)
                      replace hO := un1 hO
                      refine ⟨r124.2, rfl, ?_⟩
                      intro H127 eH127
                      replace hO := own_new (l := encVal (⟨(0 : Int), (0 : Int), ([] : List UInt8)⟩ : ValT)) hO eH127 rfl
                      refine ⟨(hO.blk (.head _)).wr (Nat.le_of_ble_eq_true rfl), ?_⟩
                      intro H128 eH128
                      replace hO := oz0 (l' := encVal r124.2) hO eH128 rfl
                      refine ⟨r124.2, (hO.blk (.head _)).rowT rfl, ?_⟩
                      obtain ⟨r129, e130, h⟩ := bindS h
                      refine c219 z0 L0 r124.1 r124.2 r129 e130 _ _ _ (fr1 (pu1 hO)) (fun H131 hO => ?_)
                      replace hO := un1 hO
                      obtain rfl := Option.some.inj h
                      exact hR _ (dr2 (dr2 (pu1 (pu3 hO))))

                    · replace h := ifFd w123 h
                      obtain rfl := Option.some.inj h
                      exact hR _ (dr2 (pu2 (pu2 hO)))












theorem c157 (n_ : Nat) (z0 : Nat) (L0 : VL) (S0 : VS) (b1 : Nat) (a1 : List ValT) (m1 c1 : Nat) (r_ : VS × ValT) (h : s157 n_ S0 a1 m1 = some r_) (F : List Ent) (H : Heap) (R : Value → Heap → Prop)
    (hO : Own H [oV z0 L0 S0, cellE 94 b1 (List.flatMap encVal a1)] F)
    (hR : ∀ (H' : Heap) , Own H' [oV z0 L0 r_.1, cellE 94 b1 (List.flatMap encVal a1)] F → R (.agg ⟨encVal r_.2⟩) H') :
    HCalls Tryz.prog 157 #[Value.pointer (some ⟨z0, 0, none⟩), Value.slice (some ⟨b1, 0, none⟩) m1 c1] H R := by
  refine vc157 z0 (some ⟨b1, 0, none⟩) m1 c1 H R ?_
  unfold s157 at h
  intro H21 eH21
  replace hO := own_new (l := encVal (⟨(0 : Int), (0 : Int), ([] : List UInt8)⟩ : ValT)) hO eH21 rfl
  replace hO := open_V (pu1 hO)
  refine ⟨S0.start, ((hO.blk (.head _)).rdv rfl), ?_⟩
  replace hO := close_V L0 S0 (hO)
  refine ⟨fun l Hc => ∃ m : Nat, ∃ S37 : VS, Own Hc [oV z0 L0 S37, cellE 94 H.size (encVal (⟨(0 : Int), (0 : Int), ([] : List UInt8)⟩ : ValT)), cellE 94 b1 (List.flatMap encVal a1)] F ∧ (l157_0 n_ a1 m1 m (asI (nth l 0)) S37) = some r_, fun l Hc => Classical.epsilon <| lsp fun m => ∃ S37 : VS, Own Hc [oV z0 L0 S37, cellE 94 H.size (encVal (⟨(0 : Int), (0 : Int), ([] : List UInt8)⟩ : ValT)), cellE 94 b1 (List.flatMap encVal a1)] F ∧ (l157_0 n_ a1 m1 m (asI (nth l 0)) S37) = some r_, ?_, ?_⟩
  · exact ⟨n_, S0, hO, h⟩
  · clear hO h
    intro H38 u39 x40 hJ
    obtain ⟨m59, hm42, hJ⟩ := lst_get hJ
    obtain ⟨S37, hO, h⟩ := hJ
    rcases m59 with _ | k58
    · exact absurd h (by simp [l157_0, asI, asB, asC, asS])
    obtain ⟨rec41, hrec41, h⟩ : ∃ f_, f_ = l157_0 n_ a1 m1 k58 ∧ (l157_0_st n_ a1 m1 f_ x40 S37) = some r_ := ⟨_, rfl, h⟩
    unfold l157_0_st at h
    replace hO := open_V (pu0 hO)
    refine ⟨(some ⟨L0.code, 0, none⟩), 48, 48, ((hO.blk (.head _)).rdv rfl), ?_⟩
    refine ⟨fun w43 => ?_, fun w44 => ?_⟩
    · replace h := ifTd w43 h
      refine ⟨(some ⟨L0.code, 0, none⟩), 48, 48, ((hO.blk (.head _)).rdv rfl), ?_⟩
      obtain ⟨x45, g46, h⟩ := getS h
      refine ⟨_, _, rfl, g46.1, g46.2.1, rfl, ?_⟩
      refine ⟨x45, (hO.arr (.tail _ (.tail _ (.head _)))).row (i := Int.toNat x40) lenInstr g46.2.2 (Nat.zero_add _), ?_⟩
      intro H47 eH47
      replace hO := own_new (l := encInstr (⟨(0 : Int), (0 : Int), (⟨(0 : Int), (0 : Int), ([] : List UInt8)⟩ : ValT), (0 : BitVec 32)⟩ : InstrT)) hO eH47 rfl
      refine ⟨(hO.blk (.head _)).wr (Nat.le_of_ble_eq_true rfl), ?_⟩
      intro H48 eH48
      replace hO := oz0 (l' := encInstr x45) hO eH48 rfl
      refine ⟨x45, (hO.blk (.head _)).rowT rfl, ?_⟩
      replace hO := close_V L0 S37 (pu6 (pu6 (pu6 (pu6 (pu6 (pu6 hO))))))
      obtain ⟨r49, e50, h⟩ := bindS h
      refine c201 n_ z0 L0 S37 x45 b1 a1 m1 c1 r49 e50 _ _ _ (fr2 (pu1 (pu3 hO))) (fun H51 hO => ?_)
      replace hO := un2 hO
      obtain ⟨q52, h⟩ := ckS h
      refine ⟨_, .inl ⟨q52, rfl⟩, ?_⟩
      replace hO := dr3 (pu2 (pu3 (pu1 hO)))
      subst hrec41
      exact lst_step hm42 ⟨r49, hO, h⟩

    · replace h := ifFd w44 h
      refine ⟨(some ⟨L0.code, 0, none⟩), 48, 48, ((hO.blk (.head _)).rdv rfl), ?_⟩
      refine ⟨(hO.blk (.head _)).wr (Nat.le_of_ble_eq_true rfl), ?_⟩
      intro H53 eH53
      replace hO := os0 (l' := [Value.pointer (some ⟨L0.f, 0, none⟩), Value.slice (some ⟨L0.code, 0, none⟩) 48 48, I (48 : Int), Value.int .u32 (S37.cells.toNat : Int), Value.slice (some ⟨L0.owner, 0, none⟩) 24 24, Value.slice (some ⟨L0.stack, 0, none⟩) 24 24, I S37.top, Value.slice (some ⟨L0.folds, 0, none⟩) 24 24, I S37.deep]) hO eH53 rfl
      replace hO := close_V L0 ({ S37 with start := (48 : Int) }) (hO)
      obtain ⟨r54, e55, h⟩ := bindS h
      refine c202 z0 L0 ({ S37 with start := (48 : Int) }) r54 e55 _ _ _ (fr1 hO) (fun H56 hO => ?_)
      replace hO := un1 hO
      refine ⟨r54.2, rfl, ?_⟩
      refine ⟨(hO.blk (.tail _ (.head _))).wr (Nat.le_of_ble_eq_true rfl), ?_⟩
      intro H57 eH57
      replace hO := oz1 (l' := encVal r54.2) hO eH57 rfl
      refine ⟨r54.2, (hO.blk (.tail _ (.head _))).rowT rfl, ?_⟩
      obtain rfl := Option.some.inj h
      exact hR _ (dr2 (pu1 (pu2 hO)))




theorem c133 (n_ : Nat) (z0 : Nat) (L0 : VL) (S0 : VS) (z1 : List UInt8) (b2 : Nat) (a2 : List ValT) (m2 c2 : Nat) (r_ : VS × ValT × Int) (h : s133 n_ S0 z1 a2 m2 = some r_) (F : List Ent) (H : Heap) (R : Value → Heap → Prop)
    (hO : Own H [oV z0 L0 S0, cellE 94 b2 (List.flatMap encVal a2)] F)
    (hR : ∀ (H' : Heap) , Own H' [oV z0 L0 r_.1, cellE 94 b2 (List.flatMap encVal a2)] F → R (.tuple #[.agg ⟨encVal r_.2.1⟩, I r_.2.2]) H') :
    HCalls Tryz.prog 133 #[Value.pointer (some ⟨z0, 0, none⟩), str z1, Value.slice (some ⟨b2, 0, none⟩) m2 c2] H R := by
  refine vc133 z0 z1 (some ⟨b2, 0, none⟩) m2 c2 H R ?_
  unfold s133 at h
  intro H21 eH21
  replace hO := own_new (l := encVal (⟨(0 : Int), (0 : Int), ([] : List UInt8)⟩ : ValT)) hO eH21 rfl
  refine ⟨fun w22 => ?_, fun w23 => ?_⟩
  · replace h := ifTd w22 h
    refine ⟨(hO.blk (.head _)).wr (Nat.le_of_ble_eq_true rfl), ?_⟩
    intro H24 eH24
    replace hO := oz0 (l' := encVal (⟨(0 : Int), (0 : Int), ([] : List UInt8)⟩ : ValT)) hO eH24 rfl
    refine ⟨(⟨(0 : Int), (0 : Int), ([] : List UInt8)⟩ : ValT), (hO.blk (.head _)).rowT rfl, ?_⟩
    obtain rfl := Option.some.inj h
    exact hR _ (dr2 (pu2 (pu2 hO)))

  · replace h := ifFd w23 h
    refine ⟨fun w25 => ?_, fun w26 => ?_⟩
    · replace w25 := bnotT w25
      replace h := ifFd w25 h
      refine ⟨(hO.blk (.head _)).wr (Nat.le_of_ble_eq_true rfl), ?_⟩
      intro H27 eH27
      replace hO := oz0 (l' := encVal (⟨(0 : Int), (0 : Int), ([] : List UInt8)⟩ : ValT)) hO eH27 rfl
      refine ⟨(⟨(0 : Int), (0 : Int), ([] : List UInt8)⟩ : ValT), (hO.blk (.head _)).rowT rfl, ?_⟩
      obtain rfl := Option.some.inj h
      exact hR _ (dr2 (pu2 (pu2 hO)))

    · replace w26 := bnotF w26
      replace h := ifTd w26 h
      refine ⟨fun l Hc => ∃ m : Nat, Own Hc [cellE 94 H.size (encVal (⟨(0 : Int), (0 : Int), ([] : List UInt8)⟩ : ValT)), oV z0 L0 S0, cellE 94 b2 (List.flatMap encVal a2)] F ∧ (l133_0 n_ S0 z1 a2 m2 m (asI (nth l 0))) = some r_, fun l Hc => Classical.epsilon <| lsp fun m => Own Hc [cellE 94 H.size (encVal (⟨(0 : Int), (0 : Int), ([] : List UInt8)⟩ : ValT)), oV z0 L0 S0, cellE 94 b2 (List.flatMap encVal a2)] F ∧ (l133_0 n_ S0 z1 a2 m2 m (asI (nth l 0))) = some r_, ?_, ?_⟩
      · exact ⟨n_, hO, h⟩
      · clear hO h
        intro H28 u29 x30 hJ
        obtain ⟨m67, hm32, hJ⟩ := lst_get hJ
        obtain ⟨hO, h⟩ := hJ
        rcases m67 with _ | k66
        · exact absurd h (by simp [l133_0, asI, asB, asC, asS])
        obtain ⟨rec31, hrec31, h⟩ : ∃ f_, f_ = l133_0 n_ S0 z1 a2 m2 k66 ∧ (l133_0_st n_ S0 z1 a2 m2 f_ x30) = some r_ := ⟨_, rfl, h⟩
        unfold l133_0_st at h
        refine ⟨fun w33 => ?_, fun w34 => ?_⟩
        · replace h := ifTd w33 h
          obtain ⟨x35, g36, h⟩ := getS h
          refine ⟨_, _, rfl, g36.1, g36.2.1, rfl, ?_⟩
          refine ⟨x35, (hO.arr (.tail _ (.tail _ (.head _)))).row (i := Int.toNat x30) lenVal g36.2.2 (Nat.zero_add _), ?_⟩
          refine c155 x35 _ rfl _ _ _ (fr0 hO) (fun H37 hO => ?_)
          replace hO := un0 hO
          refine ⟨(s155 x35), rfl, ?_⟩
          refine ⟨fun w38 => ?_, fun w39 => ?_⟩
          · replace w38 := bnotT w38
            replace h := ifFb w38 h
            refine ⟨(hO.blk (.head _)).wr (Nat.le_of_ble_eq_true rfl), ?_⟩
            intro H40 eH40
            replace hO := oz0 (l' := encVal (⟨(0 : Int), (0 : Int), ([] : List UInt8)⟩ : ValT)) hO eH40 rfl
            refine ⟨(⟨(0 : Int), (0 : Int), ([] : List UInt8)⟩ : ValT), (hO.blk (.head _)).rowT rfl, ?_⟩
            obtain rfl := Option.some.inj h
            exact hR _ (dr2 (pu2 (pu2 hO)))

          · replace w39 := bnotF w39
            replace h := ifTb w39 h
            obtain ⟨q41, h⟩ := ckS h
            refine ⟨_, .inl ⟨q41, rfl⟩, ?_⟩
            subst hrec31
            exact lst_step hm32 ⟨hO, h⟩


        · replace h := ifFd w34 h
          refine ⟨fun w43 => ?_, fun w42 => ?_⟩
          · replace h := ifFb w43 h
            obtain ⟨q44, h⟩ := ckS h
            refine ⟨q44.1, q44.2, ?_⟩
            refine ⟨fun w45 => ?_, fun w46 => ?_⟩
            · replace w45 := bnotT w45
              replace h := ifFd w45 h
              obtain ⟨r47, e48, h⟩ := bindS h
              refine c156 n_ z1 r47 e48 _ _ _ (fr0 hO) (fun H49 hO => ?_)
              replace hO := un0 hO
              refine ⟨r47, rfl, ?_⟩
              refine ⟨(hO.blk (.head _)).wr (Nat.le_of_ble_eq_true rfl), ?_⟩
              intro H50 eH50
              replace hO := oz0 (l' := encVal r47) hO eH50 rfl
              refine ⟨r47, (hO.blk (.head _)).rowT rfl, ?_⟩
              obtain rfl := Option.some.inj h
              exact hR _ (dr2 (pu2 (pu2 hO)))

            · replace w46 := bnotF w46
              replace h := ifTd w46 h
              obtain ⟨r51, e52, h⟩ := bindS h
              refine c127 n_ z0 L0 S0 z1 r51 e52 _ _ _ (fr1 (pu1 hO)) (fun H53 hO => ?_)
              replace hO := un1 hO
              refine ⟨r51.2, rfl, ?_⟩
              refine ⟨fun w54 => ?_, fun w55 => ?_⟩
              · replace w54 := bnotT w54
                replace h := ifFb w54 h
                refine c131 (1 : Int) _ rfl _ _ _ (fr0 hO) (fun H56 hO => ?_)
                replace hO := un0 hO
                refine ⟨(s131 (1 : Int)), rfl, ?_⟩
                refine ⟨(hO.blk (.tail _ (.head _))).wr (Nat.le_of_ble_eq_true rfl), ?_⟩
                intro H57 eH57
                replace hO := oz1 (l' := encVal (s131 (1 : Int))) hO eH57 rfl
                refine ⟨(s131 (1 : Int)), (hO.blk (.tail _ (.head _))).rowT rfl, ?_⟩
                obtain rfl := Option.some.inj h
                exact hR _ (dr2 (pu1 (pu2 hO)))

              · replace w55 := bnotF w55
                replace h := ifTb w55 h
                obtain ⟨r58, e59, h⟩ := bindS h
                refine c157 n_ z0 L0 r51.1 b2 a2 m2 c2 r58 e59 _ _ _ (fr2 (pu1 (pu2 hO))) (fun H60 hO => ?_)
                replace hO := un2 hO
                refine ⟨r58.2, rfl, ?_⟩
                refine ⟨(hO.blk (.tail _ (.tail _ (.head _)))).wr (Nat.le_of_ble_eq_true rfl), ?_⟩
                intro H61 eH61
                replace hO := oz2 (l' := encVal r58.2) hO eH61 rfl
                refine ⟨r58.2, (hO.blk (.tail _ (.tail _ (.head _)))).rowT rfl, ?_⟩
                obtain rfl := Option.some.inj h
                exact hR _ (dr2 (hO))



          · replace h := ifTb w42 h
            obtain ⟨r62, e63, h⟩ := bindS h
            refine c156 n_ z1 r62 e63 _ _ _ (fr0 hO) (fun H64 hO => ?_)
            replace hO := un0 hO
            refine ⟨r62, rfl, ?_⟩
            refine ⟨(hO.blk (.head _)).wr (Nat.le_of_ble_eq_true rfl), ?_⟩
            intro H65 eH65
            replace hO := oz0 (l' := encVal r62) hO eH65 rfl
            refine ⟨r62, (hO.blk (.head _)).rowT rfl, ?_⟩
            obtain rfl := Option.some.inj h
            exact hR _ (dr2 (pu2 (pu2 hO)))







end Go.Proofs.Qxb6500272aGreat
