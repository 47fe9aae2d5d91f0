import Derived.Test.Qxb6500272aGreatC4
/- The contracts. Printed by tools/mkall.py. -/
namespace Go.Proofs.Qxb6500272aGreat
open Go
set_option linter.unusedVariables false
set_option linter.unusedSimpArgs false
set_option maxHeartbeats 4000000

theorem c119 (n_ : Nat) (z0 : Nat) (L0 : FL) (S0 : FoS) (b1 : Nat) (t1 : TreeV) (c1 : Nat) (r_ : FoS × List UInt8 × Int) (h : s119 n_ S0 t1 = some r_) (F : List Ent) (H : Heap) (R : Value → Heap → Prop)
    (hO : Own H [oF z0 L0 S0, cellE 153 b1 (List.flatMap encNode t1.nodes)] F)
    (hR : ∀ (H' : Heap) , Own H' [oF z0 L0 r_.1, cellE 153 b1 (List.flatMap encNode t1.nodes)] F → R (.tuple #[str r_.2.1, I r_.2.2]) H') :
    HCalls Tryz.prog 119 #[Value.pointer (some ⟨z0, 0, none⟩), Value.agg ⟨encTree ⟨some ⟨b1, 0, none⟩, t1.nodes.length, c1, t1.root, t1.err, t1.pos⟩⟩] H R := by
  refine vc119 z0 ⟨some ⟨b1, 0, none⟩, t1.nodes.length, c1, t1.root, t1.err, t1.pos⟩ H R ?_
  unfold s119 at h
  intro H21 eH21
  replace hO := own_new (l := [Value.slice (some ⟨b1, 0, none⟩) t1.nodes.length c1, I t1.root, I t1.err, I t1.pos]) hO eH21 rfl
  refine ⟨(some ⟨b1, 0, none⟩), t1.nodes.length, c1, ((hO.blk (.head _)).rdv rfl), ?_⟩
  refine ⟨fun w22 => ?_, fun w23 => ?_⟩
  · replace h := ifTd w22 h
    obtain rfl := Option.some.inj h
    exact hR _ (dr2 (pu2 (pu2 hO)))

  · replace h := ifFd w23 h
    refine ⟨(⟨(some ⟨b1, 0, none⟩), t1.nodes.length, c1, t1.root, t1.err, t1.pos⟩ : TreeT), (hO.blk (.head _)).rowT rfl, ?_⟩
    obtain ⟨r24, e25, h⟩ := bindS h
    refine c142 n_ b1 t1 c1 r24 e25 _ _ _ (fr1 (pu2 hO)) (fun H26 hO => ?_)
    replace hO := un1 hO
    refine ⟨r24, rfl, ?_⟩
    refine ⟨fun w27 => ?_, fun w28 => ?_⟩
    · replace w27 := bnotT w27
      replace h := ifFb w27 h
      obtain rfl := Option.some.inj h
      exact hR _ (dr2 (pu2 (pu0 hO)))

    · replace w28 := bnotF w28
      replace h := ifTb w28 h
      refine ⟨(some ⟨b1, 0, none⟩), t1.nodes.length, c1, ((hO.blk (.tail _ (.head _))).rdv rfl), ?_⟩
      obtain ⟨r29, e30, h⟩ := bindS h
      refine c143 n_ z0 L0 S0 b1 t1.nodes t1.nodes.length c1 r29 e30 _ _ _ (fr2 (pu2 (pu0 hO))) (fun H31 hO => ?_)
      replace hO := un2 hO
      refine ⟨r29.2, rfl, ?_⟩
      obtain rfl := Option.some.inj h
      exact hR _ (dr2 (hO))




theorem c99 (n_ : Nat) (z0 : Nat) (L0 : EL) (S0 : ES) (b1 : Nat) (t1 : TreeV) (c1 : Nat) (r_ : ES × List UInt8) (h : s99 n_ S0 t1 = some r_) (F : List Ent) (H : Heap) (R : Value → Heap → Prop)
    (hO : Own H [oE z0 L0 S0, cellE 153 b1 (List.flatMap encNode t1.nodes)] F)
    (hR : ∀ (H' : Heap) , Own H' [oE z0 L0 r_.1, cellE 153 b1 (List.flatMap encNode t1.nodes)] F → R (str r_.2) H') :
    HCalls Tryz.prog 99 #[Value.pointer (some ⟨z0, 0, none⟩), Value.agg ⟨encTree ⟨some ⟨b1, 0, none⟩, t1.nodes.length, c1, t1.root, t1.err, t1.pos⟩⟩] H R := by
  refine vc99 z0 ⟨some ⟨b1, 0, none⟩, t1.nodes.length, c1, t1.root, t1.err, t1.pos⟩ H R ?_
  unfold s99 at h
  intro H21 eH21
  replace hO := own_new (l := [Value.slice (some ⟨b1, 0, none⟩) t1.nodes.length c1, I t1.root, I t1.err, I t1.pos]) hO eH21 rfl
  replace hO := open_E (pu1 hO)
  refine ⟨L0.f, ((hO.blk (.head _)).rdv rfl), ?_⟩
  refine ⟨(⟨(some ⟨b1, 0, none⟩), t1.nodes.length, c1, t1.root, t1.err, t1.pos⟩ : TreeT), (hO.blk (.tail _ (.tail _ (.tail _ (.tail _ (.head _)))))).rowT rfl, ?_⟩
  obtain ⟨r22, e23, h⟩ := bindS h
  refine c119 n_ L0.f L0.fl S0.f b1 t1 c1 r22 e23 _ _ _ (fr2 (pu2 (pu5 hO))) (fun H24 hO => ?_)
  replace hO := un2 hO
  refine ⟨r22.2.1, r22.2.2, rfl, ?_⟩
  obtain ⟨q25, h⟩ := ckS h
  refine ⟨q25, ?_⟩
  replace hO := close_E L0 ({ S0 with f := r22.1 }) (pu4 (pu2 (pu4 (pu4 hO))))
  obtain rfl := Option.some.inj h
  exact hR _ (dr2 (hO))


theorem c100 (n_ : Nat) (z0 : Nat) (L0 : EL) (S0 : ES) (z1 : Int) (z2 : List UInt8) (r_ : ES) (h : s100 n_ S0 z1 z2 = some r_) (F : List Ent) (H : Heap) (R : Value → Heap → Prop)
    (hO : Own H [oE z0 L0 S0] F)
    (hR : ∀ (H' : Heap) , Own H' [oE z0 L0 r_] F → R (.tuple #[]) H') :
    HCalls Tryz.prog 100 #[Value.pointer (some ⟨z0, 0, none⟩), I z1, str z2] H R := by
  refine vc100 z0 z1 z2 H R ?_
  unfold s100 at h
  replace hO := open_E (pu0 hO)
  refine ⟨L0.k, ((hO.blk (.head _)).rdv rfl), ?_⟩
  obtain ⟨r21, e22, h⟩ := bindS h
  refine c86 L0.k L0.kl S0.k z1 r21 e22 _ _ _ (fr1 (pu2 hO)) (fun H23 hO => ?_)
  replace hO := un1 hO
  refine ⟨r21, rfl, ?_⟩
  refine ⟨fun w24 => ?_, fun w25 => ?_⟩
  · replace w24 := bnotT w24
    replace h := ifFb w24 h
    refine ⟨L0.k, ((hO.blk (.tail _ (.head _))).rdv rfl), ?_⟩
    obtain ⟨r26, e27, h⟩ := bindS h
    refine c90 n_ L0.k L0.kl S0.k z1 z2 r26 e27 _ _ _ (fr1 hO) (fun H28 hO => ?_)
    replace hO := un1 hO
    refine ⟨r26.2, rfl, ?_⟩
    replace hO := close_E L0 ({ S0 with k := r26.1 }) (pu3 (pu3 (pu1 (pu3 hO))))
    obtain rfl := Option.some.inj h
    exact hR _ hO

  · replace w25 := bnotF w25
    replace h := ifTb w25 h
    replace hO := close_E L0 S0 (pu3 (pu3 (pu1 (pu3 hO))))
    obtain rfl := Option.some.inj h
    exact hR _ hO



theorem c76 (n_ : Nat) (z0 : Nat) (L0 : EL) (S0 : ES) (z1 : Int) (z2 : Int) (r_ : ES × Int) (h : s76 n_ S0 z1 z2 = some r_) (F : List Ent) (H : Heap) (R : Value → Heap → Prop)
    (hO : Own H [oE z0 L0 S0] F)
    (hR : ∀ (H' : Heap) , Own H' [oE z0 L0 r_.1] F → R (I r_.2) H') :
    HCalls Tryz.prog 76 #[Value.pointer (some ⟨z0, 0, none⟩), I z1, I z2] H R := by
  refine vc76 z0 z1 z2 H R ?_
  unfold s76 at h
  refine c94 z1 z2 _ rfl _ _ _ (fr0 hO) (fun H21 hO => ?_)
  replace hO := un0 hO
  refine ⟨(s94 z1 z2), rfl, ?_⟩
  refine ⟨fun w22 => ?_, fun w23 => ?_⟩
  · replace w22 := bnotT w22
    replace h := ifFb w22 h
    obtain rfl := Option.some.inj h
    exact hR _ hO

  · replace w23 := bnotF w23
    replace h := ifTb w23 h
    refine c95 z1 z2 _ rfl _ _ _ (fr0 hO) (fun H24 hO => ?_)
    replace hO := un0 hO
    refine ⟨(s95 z1 z2), rfl, ?_⟩
    intro H25 eH25
    replace hO := own_new (l := encGap (⟨false, (0 : Int), (0 : Int), (0 : Int)⟩ : GapT)) hO eH25 rfl
    refine ⟨(hO.blk (.head _)).wr (Nat.le_of_ble_eq_true rfl), ?_⟩
    intro H26 eH26
    replace hO := oz0 (l' := encGap (s95 z1 z2)) hO eH26 rfl
    refine ⟨fun l Hc => ∃ m : Nat, ∃ S64 : ES, Own Hc [cellE 128 H24.size (encGap (s95 z1 z2)), oE z0 L0 S64] F ∧ (l76_6 n_ z1 z2 m (asI (nth l 0)) S64) = some r_, fun l Hc => Classical.epsilon <| lsp fun m => ∃ S64 : ES, Own Hc [cellE 128 H24.size (encGap (s95 z1 z2)), oE z0 L0 S64] F ∧ (l76_6 n_ z1 z2 m (asI (nth l 0)) S64) = some r_, ?_, ?_⟩
    · exact ⟨n_, S0, hO, h⟩
    · clear hO h
      intro H65 u66 x67 hJ
      obtain ⟨m192, hm69, hJ⟩ := lst_get hJ
      obtain ⟨S64, hO, h⟩ := hJ
      rcases m192 with _ | k191
      · exact absurd h (by simp [l76_6, asI, asB, asC, asS])
      obtain ⟨rec68, hrec68, h⟩ : ∃ f_, f_ = l76_6 n_ z1 z2 k191 ∧ (l76_6_st n_ z1 z2 f_ x67 S64) = some r_ := ⟨_, rfl, h⟩
      unfold l76_6_st at h
      refine ⟨fun w70 => ?_, fun w71 => ?_⟩
      · replace h := ifTd w70 h
        refine ⟨fun l Hc => ∃ S98 : ES, Own Hc [cellE 128 H24.size (encGap (s95 z1 z2)), oE z0 L0 S98] F ∧ (k76_2 x67 rec68 S98) = some r_, ?_, ?_⟩
        · refine ⟨(s95 z1 z2), (hO.blk (.head _)).rowT rfl, ?_⟩
          obtain ⟨r102, e103, h⟩ := bindS h
          refine c96 (s95 z1 z2) x67 r102 e103 _ _ _ (fr0 hO) (fun H104 hO => ?_)
          replace hO := un0 hO
          refine ⟨r102, rfl, ?_⟩
          refine ⟨fun w105 => ?_, fun w106 => ?_⟩
          · replace h := ifTd w105 h
            replace hO := open_E (pu1 hO)
            refine ⟨L0.k, ((hO.blk (.head _)).rdv rfl), ?_⟩
            obtain ⟨r107, e108, h⟩ := bindS h
            refine c86 L0.k L0.kl S64.k r102 r107 e108 _ _ _ (fr1 (pu2 hO)) (fun H109 hO => ?_)
            replace hO := un1 hO
            refine ⟨r107, rfl, ?_⟩
            replace hO := close_E L0 S64 (pu3 (pu3 (pu1 (pu3 hO))))
            obtain ⟨r110, e111, h⟩ := bindS h
            refine c97 n_ z0 L0 S64 r107 r110 e111 _ _ _ (fr1 hO) (fun H112 a113 k114 C115 hs116 hO => ?_)
            replace hO := un2 hO
            refine ⟨(⟨a113, r110.2.1.nodes.length, k114, r110.2.1.root, r110.2.1.err, r110.2.1.pos⟩ : TreeT), r110.2.2, rfl, ?_⟩
            intro H117 eH117
            replace hO := own_new (l := [Value.slice none 0 0, I (0 : Int), I (0 : Int), I (0 : Int)]) hO eH117 rfl
            refine ⟨(hO.blk (.head _)).wr (Nat.le_of_ble_eq_true rfl), ?_⟩
            intro H118 eH118
            replace hO := oz0 (l' := [Value.slice a113 r110.2.1.nodes.length k114, I r110.2.1.root, I r110.2.1.err, I r110.2.1.pos]) hO eH118 rfl
            refine ⟨fun l Hc => ∃ S137 : ES, Own Hc [oE z0 L0 S137, cellE 128 H24.size (encGap (s95 z1 z2))] F ∧ (k76_4 x67 rec68 (asS (nth l 0)) S137) = some r_, ?_, ?_⟩
            · refine ⟨fun w144 => ?_, fun w145 => ?_⟩
              · replace h := ifTb w144 h
                refine ⟨(s95 z1 z2), (hO.blk (.tail _ (.tail _ (.tail _ (.head _))))).rowT rfl, ?_⟩
                refine ⟨a113, r110.2.1.nodes.length, k114, ((hO.blk (.head _)).rdv rfl), ?_⟩
                obtain ⟨q146, h⟩ := ckS h
                obtain ⟨b147, ha_, hC_⟩ := hs116.2 q146
                subst ha_ hC_
                obtain ⟨r149, e150, h⟩ := bindS h
                refine c98 n_ (s95 z1 z2) b147 r110.2.1.nodes r110.2.1.nodes.length k114 r149 e150 _ _ _ (fr1 (pu2 hO)) (fun H151 hO => ?_)
                replace hO := un1 hO
                refine ⟨(⟨(some ⟨b147, 0, none⟩), r110.2.1.nodes.length, k114, r110.2.1.root, r110.2.1.err, r110.2.1.pos⟩ : TreeT), (hO.blk (.tail _ (.head _))).rowT rfl, ?_⟩
                obtain ⟨q152, h⟩ := ckS h
                rw [q152]
                obtain ⟨r153, e154, h⟩ := bindS h
                refine c99 n_ z0 L0 r110.1 b147 (⟨r149, r110.2.1.root, r110.2.1.err, r110.2.1.pos⟩ : TreeV) k114 r153 e154 _ _ _ (fr2 (pu2 (pu0 hO))) (fun H155 hO => ?_)
                replace hO := un2 hO
                refine ⟨r153.2, rfl, ?_⟩
                replace hO := dr2 (dr2 (pu1 (pu3 hO)))
                exact ⟨r153.1, hO, h⟩

              · replace h := ifFb w145 h
                replace hO := dr2 (dr2 (pu2 (pu3 hO)))
                exact ⟨r110.1, hO, h⟩


            · clear hO h
              intro H138 u139 x140 hJ
              obtain ⟨S137, hO, h⟩ := hJ
              replace h : (k76_4 x67 rec68 x140 S137) = some r_ := h
              unfold k76_4 at h
              replace hO := open_E (pu0 hO)
              refine ⟨(some ⟨L0.buf, 0, none⟩), 24, 24, ((hO.blk (.head _)).rdv rfl), ?_⟩
              obtain ⟨x141, g142, h⟩ := getS h
              refine ⟨_, _, rfl, g142.1, g142.2.1, rfl, ?_⟩
              refine ⟨((hO.arr (.tail _ (.tail _ (.tail _ (.head _))))).wr1 lenStr (i := Int.toNat x67) (j := 0) (getLt g142.2.2) (Nat.le_of_ble_eq_true rfl) (zo0 _)), ?_⟩
              intro H143 eH143
              replace hO := os3 (l' := List.flatMap encS (List.set S137.buf (Int.toNat x67) x140)) hO eH143 (flat_set1 lenStr (i := Int.toNat x67) (j := 0) g142.2.2 (by decide) (zo0 _) rfl)
              replace hO := close_E L0 ({ S137 with buf := (List.set S137.buf (Int.toNat x67) x140) }) (hO)
              replace hO := pu1 (pu0 hO)
              exact ⟨({ S137 with buf := (List.set S137.buf (Int.toNat x67) x140) }), hO, h⟩


          · replace h := ifFd w106 h
            exact ⟨S64, hO, h⟩


        · clear hO h
          intro H99 u100  hJ
          obtain ⟨S98, hO, h⟩ := hJ
          replace h : (k76_2 x67 rec68 S98) = some r_ := h
          unfold k76_2 at h
          obtain ⟨q101, h⟩ := ckS h
          refine ⟨_, .inl ⟨q101, rfl⟩, ?_⟩
          subst hrec68
          exact lst_step hm69 ⟨S98, hO, h⟩


      · replace h := ifFd w71 h
        replace hO := dr1 (pu1 hO)
        refine ⟨fun l Hc => ∃ m : Nat, ∃ S172 : ES, Own Hc [oE z0 L0 S172] F ∧ (l76_5 n_ m (asI (nth l 0)) S172) = some r_, fun l Hc => Classical.epsilon <| lsp fun m => ∃ S172 : ES, Own Hc [oE z0 L0 S172] F ∧ (l76_5 n_ m (asI (nth l 0)) S172) = some r_, ?_, ?_⟩
        · exact ⟨n_, S64, hO, h⟩
        · clear hO h
          intro H173 u174 x175 hJ
          obtain ⟨m190, hm177, hJ⟩ := lst_get hJ
          obtain ⟨S172, hO, h⟩ := hJ
          rcases m190 with _ | k189
          · exact absurd h (by simp [l76_5, asI, asB, asC, asS])
          obtain ⟨rec176, hrec176, h⟩ : ∃ f_, f_ = l76_5 n_ k189 ∧ (l76_5_st n_ f_ x175 S172) = some r_ := ⟨_, rfl, h⟩
          unfold l76_5_st at h
          refine ⟨fun w178 => ?_, fun w179 => ?_⟩
          · replace h := ifTd w178 h
            replace hO := open_E (pu0 hO)
            refine ⟨(some ⟨L0.buf, 0, none⟩), 24, 24, ((hO.blk (.head _)).rdv rfl), ?_⟩
            obtain ⟨x180, g181, h⟩ := getS h
            refine ⟨_, _, rfl, g181.1, g181.2.1, rfl, ?_⟩
            refine ⟨x180, ((hO.arr (.tail _ (.tail _ (.tail _ (.head _))))).rd (i := Int.toNat x175) (j := 0) lenStr g181.2.2 (by decide) (zo0 _) rfl), ?_⟩
            replace hO := close_E L0 S172 (hO)
            obtain ⟨r182, e183, h⟩ := bindS h
            refine c100 n_ z0 L0 S172 x175 x180 r182 e183 _ _ _ (fr1 hO) (fun H184 hO => ?_)
            replace hO := un1 hO
            replace hO := open_E (pu0 hO)
            refine ⟨(some ⟨L0.buf, 0, none⟩), 24, 24, ((hO.blk (.head _)).rdv rfl), ?_⟩
            obtain ⟨x185, g186, h⟩ := getS h
            refine ⟨_, _, rfl, g186.1, g186.2.1, rfl, ?_⟩
            refine ⟨((hO.arr (.tail _ (.tail _ (.tail _ (.head _))))).wr1 lenStr (i := Int.toNat x175) (j := 0) (getLt g186.2.2) (Nat.le_of_ble_eq_true rfl) (zo0 _)), ?_⟩
            intro H187 eH187
            replace hO := os3 (l' := List.flatMap encS (List.set r182.buf (Int.toNat x175) ([] : List UInt8))) hO eH187 (flat_set1 lenStr (i := Int.toNat x175) (j := 0) g186.2.2 (by decide) (zo0 _) rfl)
            obtain ⟨q188, h⟩ := ckS h
            refine ⟨_, .inl ⟨q188, rfl⟩, ?_⟩
            replace hO := close_E L0 ({ r182 with buf := (List.set r182.buf (Int.toNat x175) ([] : List UInt8)) }) (hO)
            subst hrec176
            exact lst_step hm177 ⟨({ r182 with buf := (List.set r182.buf (Int.toNat x175) ([] : List UInt8)) }), hO, h⟩

          · replace h := ifFd w179 h
            obtain rfl := Option.some.inj h
            exact hR _ hO







theorem c50 (n_ : Nat) (z0 : Nat) (L0 : BL) (S0 : BS) (z1 : Int) (z2 : Int) (r_ : BS × Int) (h : s50 n_ S0 z1 z2 = some r_) (F : List Ent) (H : Heap) (R : Value → Heap → Prop)
    (hO : Own H [oB z0 L0 S0] F)
    (hR : ∀ (H' : Heap) , Own H' [oB z0 L0 r_.1] F → R (I r_.2) H') :
    HCalls Tryz.prog 50 #[Value.pointer (some ⟨z0, 0, none⟩), I z1, I z2] H R := by
  refine vc50 z0 z1 z2 H R ?_
  unfold s50 at h
  obtain ⟨r21, e22, h⟩ := bindS h
  refine c70 n_ z0 L0 S0 r21 e22 _ _ _ (fr1 hO) (fun H23 hO => ?_)
  replace hO := un1 hO
  replace hO := open_B (pu0 hO)
  refine ⟨L0.e, ((hO.blk (.head _)).rdv rfl), ?_⟩
  obtain ⟨r24, e25, h⟩ := bindS h
  refine c76 n_ L0.e L0.el r21.e z1 z2 r24 e25 _ _ _ (fr1 (pu1 hO)) (fun H26 hO => ?_)
  replace hO := un1 hO
  refine ⟨r24.2, rfl, ?_⟩
  refine ⟨fun w27 => ?_, fun w28 => ?_⟩
  · replace h := ifTd w27 h
    replace hO := close_B L0 ({ r21 with e := r24.1 }) (pu5 (pu4 (pu5 (pu5 (pu5 (pu5 hO))))))
    obtain ⟨r29, e30, h⟩ := bindS h
    refine c72 n_ z0 L0 ({ r21 with e := r24.1 }) r29 e30 _ _ _ (fr1 hO) (fun H31 hO => ?_)
    replace hO := un1 hO
    obtain rfl := Option.some.inj h
    exact hR _ hO

  · replace h := ifFd w28 h
    replace hO := close_B L0 ({ r21 with e := r24.1 }) (pu5 (pu4 (pu5 (pu5 (pu5 (pu5 hO))))))
    obtain rfl := Option.some.inj h
    exact hR _ hO



theorem c101 (z0 : Int) (z1 : Int) (z2 : Int) (r_ : Int) (h : s101 z0 z1 z2 = some r_) (F : List Ent) (H : Heap) (R : Value → Heap → Prop)
    (hO : Own H [] F)
    (hR : ∀ (H' : Heap) , Own H' [] F → R (I r_) H') :
    HCalls Tryz.prog 101 #[I z0, I z1, I z2] H R := by
  refine vc101 z0 z1 z2 H R ?_
  unfold s101 at h
  refine ⟨(by decide), ?_⟩
  obtain ⟨q21, h⟩ := ckS h
  refine ⟨(by decide), q21, ?_⟩
  refine ⟨fun l Hc => Own Hc [] F ∧ (k101_0 (asI (nth l 0)) (asI (nth l 1))) = some r_, ?_, ?_⟩
  · refine ⟨fun w28 => ?_, fun w29 => ?_⟩
    · replace h := ifTd w28 h
      refine ⟨fun w30 => ?_, fun w31 => ?_⟩
      · replace h := ifTd w30 h
        obtain rfl := Option.some.inj h
        exact hR _ hO

      · replace h := ifFd w31 h
        refine ⟨fun w32 => ?_, fun w33 => ?_⟩
        · replace h := ifTd w32 h
          obtain ⟨q34, h⟩ := ckS h
          refine ⟨q34, ?_⟩
          exact ⟨hO, h⟩

        · replace h := ifFd w33 h
          exact ⟨hO, h⟩



    · replace h := ifFd w29 h
      refine ⟨fun w35 => ?_, fun w36 => ?_⟩
      · replace h := ifTd w35 h
        refine ⟨fun l Hc => Own Hc [] F ∧ (k101_1 z0 (asI (nth l 0))) = some r_, ?_, ?_⟩
        · refine ⟨fun w42 => ?_, fun w43 => ?_⟩
          · replace h := ifTd w42 h
            obtain ⟨q44, h⟩ := ckS h
            refine ⟨_, .inl ⟨q44, rfl⟩, ?_⟩
            exact ⟨hO, h⟩

          · replace h := ifFd w43 h
            exact ⟨hO, h⟩


        · clear hO h
          intro H37 u38 x39 hJ
          obtain ⟨hO, h⟩ := hJ
          replace h : (k101_1 z0 x39) = some r_ := h
          unfold k101_1 at h
          refine ⟨fun w40 => ?_, fun w41 => ?_⟩
          · replace h := ifTd w40 h
            obtain rfl := Option.some.inj h
            exact hR _ hO

          · replace h := ifFd w41 h
            exact ⟨hO, h⟩



      · replace h := ifFd w36 h
        refine ⟨fun w45 => ?_, fun w46 => ?_⟩
        · replace h := ifTd w45 h
          refine ⟨fun w47 => ?_, fun w48 => ?_⟩
          · replace h := ifTd w47 h
            obtain rfl := Option.some.inj h
            exact hR _ hO

          · replace h := ifFd w48 h
            refine ⟨fun w49 => ?_, fun w50 => ?_⟩
            · replace h := ifTd w49 h
              obtain ⟨q51, h⟩ := ckS h
              refine ⟨q51, ?_⟩
              exact ⟨hO, h⟩

            · replace h := ifFd w50 h
              exact ⟨hO, h⟩



        · replace h := ifFd w46 h
          refine ⟨fun w52 => ?_, fun w53 => ?_⟩
          · replace h := ifTd w52 h
            refine ⟨fun l Hc => Own Hc [] F ∧ (k101_2 z0 (asI (nth l 0))) = some r_, ?_, ?_⟩
            · refine ⟨fun w59 => ?_, fun w60 => ?_⟩
              · replace h := ifTd w59 h
                obtain ⟨q61, h⟩ := ckS h
                refine ⟨_, .inl ⟨q61, rfl⟩, ?_⟩
                exact ⟨hO, h⟩

              · replace h := ifFd w60 h
                exact ⟨hO, h⟩


            · clear hO h
              intro H54 u55 x56 hJ
              obtain ⟨hO, h⟩ := hJ
              replace h : (k101_2 z0 x56) = some r_ := h
              unfold k101_2 at h
              refine ⟨fun w57 => ?_, fun w58 => ?_⟩
              · replace h := ifTd w57 h
                obtain rfl := Option.some.inj h
                exact hR _ hO

              · replace h := ifFd w58 h
                exact ⟨hO, h⟩



          · replace h := ifFd w53 h
            exact ⟨hO, h⟩





  · clear hO h
    intro H22 u23 x24 x25 hJ
    obtain ⟨hO, h⟩ := hJ
    replace h : (k101_0 x24 x25) = some r_ := h
    unfold k101_0 at h
    obtain ⟨q26, h⟩ := ckS h
    refine ⟨q26, ?_⟩
    obtain ⟨q27, h⟩ := ckS h
    refine ⟨_, .inl ⟨q27, rfl⟩, ?_⟩
    obtain rfl := Option.some.inj h
    exact hR _ hO



theorem c102 (n_ : Nat) (z0 : Nat) (L0 : EML) (S0 : EMS) (z1 : List UInt8) (r_ : EMS × TreeV × Bool) (h : s102 n_ S0 z1 = some r_) (F : List Ent) (H : Heap) (R : Value → Heap → Prop)
    (hO : Own H [oEM z0 L0 S0] F)
    (hR : ∀ (H' : Heap) (L0' : EML) (a_1 : Option Addr) (c_1 : Nat) (C_1 : List Ent) (_ : SH 153 encNode r_.2.1.nodes a_1 r_.2.1.nodes.length C_1), Own H' [oEM z0 (L0') r_.1, C_1] F → R (.tuple #[.agg ⟨encTree ⟨a_1, r_.2.1.nodes.length, c_1, r_.2.1.root, r_.2.1.err, r_.2.1.pos⟩⟩, .bool r_.2.2]) H') :
    HCalls Tryz.prog 102 #[Value.pointer (some ⟨z0, 0, none⟩), str z1] H R := by
  refine vc102 z0 z1 H R ?_
  unfold s102 at h
  intro H21 eH21
  replace hO := own_new (l := [Value.slice none 0 0, I (0 : Int), I (0 : Int), I (0 : Int)]) hO eH21 rfl
  refine ⟨fun w23 => ?_, fun w22 => ?_⟩
  · replace h := ifFb w23 h
    obtain ⟨q24, h⟩ := ckS h
    refine ⟨q24.1, q24.2, ?_⟩
    refine ⟨fun w25 => ?_, fun w26 => ?_⟩
    · replace w25 := bnotT w25
      replace h := ifFd w25 h
      refine ⟨(hO.blk (.head _)).wr (Nat.le_of_ble_eq_true rfl), ?_⟩
      intro H27 eH27
      replace hO := oz0 (l' := [Value.slice none 0 0, I (0 : Int), I (0 : Int), I (0 : Int)]) hO eH27 rfl
      refine ⟨(⟨none, 0, 0, (0 : Int), (0 : Int), (0 : Int)⟩ : TreeT), (hO.blk (.head _)).rowT rfl, ?_⟩
      replace hO := own_nil hO
      obtain rfl := Option.some.inj h
      exact hR _ L0 none 0 [] shNil (dr2 (pu2 (pu0 hO)))

    · replace w26 := bnotF w26
      replace h := ifTd w26 h
      replace hO := open_EM (pu1 hO)
      refine ⟨L0.f, ((hO.blk (.head _)).rdv rfl), ?_⟩
      obtain ⟨q28, h⟩ := ckS h
      refine ⟨q28.1, q28.2, ?_⟩
      obtain ⟨r29, e30, h⟩ := bindS h
      refine ⟨?_, ?_⟩
      · refine c120 n_ L0.f L0.fl S0.f (List.drop (Int.toNat (1 : Int)) z1) r29 e30 _ _ _ (fr1 (pu1 hO)) (fun H38 a39 k40 C41 hs42 hO => ?_)
        replace hO := un2 hO
        refine ⟨(⟨a39, r29.2.nodes.length, k40, r29.2.root, r29.2.err, r29.2.pos⟩ : TreeT), rfl, ?_⟩
        intro H43 eH43
        replace hO := own_new (l := [Value.slice none 0 0, I (0 : Int), I (0 : Int), I (0 : Int)]) hO eH43 rfl
        refine ⟨(hO.blk (.head _)).wr (Nat.le_of_ble_eq_true rfl), ?_⟩
        intro H44 eH44
        replace hO := oz0 (l' := [Value.slice a39 r29.2.nodes.length k40, I r29.2.root, I r29.2.err, I r29.2.pos]) hO eH44 rfl
        refine ⟨(⟨a39, r29.2.nodes.length, k40, r29.2.root, r29.2.err, r29.2.pos⟩ : TreeT), (hO.blk (.head _)).rowT rfl, ?_⟩
        refine ⟨?_, ?_⟩
        · refine ⟨r29.2.err, ((hO.blk (.head _)).rdv rfl), ?_⟩
          refine ⟨(hO.blk (.tail _ (.tail _ (.tail _ (.tail _ (.tail _ (.head _))))))).wr (Nat.le_of_ble_eq_true rfl), ?_⟩
          intro H46 eH46
          replace hO := oz5 (l' := [Value.slice a39 r29.2.nodes.length k40, I r29.2.root, I r29.2.err, I r29.2.pos]) hO eH46 rfl
          refine ⟨(⟨a39, r29.2.nodes.length, k40, r29.2.root, r29.2.err, r29.2.pos⟩ : TreeT), (hO.blk (.tail _ (.tail _ (.tail _ (.tail _ (.tail _ (.head _))))))).rowT rfl, ?_⟩
          replace hO := close_EM L0 ({ S0 with f := r29.1 }) (pu4 (pu2 (pu4 hO)))
          obtain rfl := Option.some.inj h
          exact hR _ L0 a39 k40 C41 hs42 (dr2 (dr2 (pu1 (pu2 hO))))

        · refine ⟨(hO.blk (.tail _ (.tail _ (.tail _ (.tail _ (.tail _ (.head _))))))).wr (Nat.le_of_ble_eq_true rfl), ?_⟩
          intro H47 eH47
          replace hO := oz5 (l' := [Value.slice a39 r29.2.nodes.length k40, I r29.2.root, I r29.2.err, I r29.2.pos]) hO eH47 rfl
          refine ⟨r29.2.err, ((hO.blk (.head _)).rdv rfl), ?_⟩
          refine ⟨(⟨a39, r29.2.nodes.length, k40, r29.2.root, r29.2.err, r29.2.pos⟩ : TreeT), (hO.blk (.tail _ (.tail _ (.tail _ (.tail _ (.tail _ (.head _))))))).rowT rfl, ?_⟩
          replace hO := close_EM L0 ({ S0 with f := r29.1 }) (pu4 (pu2 (pu4 hO)))
          obtain rfl := Option.some.inj h
          exact hR _ L0 a39 k40 C41 hs42 (dr2 (dr2 (pu1 (pu2 hO))))


      · intro H48 eH48
        replace hO := own_new (l := [Value.slice none 0 0, I (0 : Int), I (0 : Int), I (0 : Int)]) hO eH48 rfl
        refine c120 n_ L0.f L0.fl S0.f (List.drop (Int.toNat (1 : Int)) z1) r29 e30 _ _ _ (fr1 (pu2 hO)) (fun H49 a50 k51 C52 hs53 hO => ?_)
        replace hO := un2 hO
        refine ⟨(⟨a50, r29.2.nodes.length, k51, r29.2.root, r29.2.err, r29.2.pos⟩ : TreeT), rfl, ?_⟩
        refine ⟨(hO.blk (.tail _ (.tail _ (.head _)))).wr (Nat.le_of_ble_eq_true rfl), ?_⟩
        intro H54 eH54
        replace hO := oz2 (l' := [Value.slice a50 r29.2.nodes.length k51, I r29.2.root, I r29.2.err, I r29.2.pos]) hO eH54 rfl
        refine ⟨(⟨a50, r29.2.nodes.length, k51, r29.2.root, r29.2.err, r29.2.pos⟩ : TreeT), (hO.blk (.tail _ (.tail _ (.head _)))).rowT rfl, ?_⟩
        refine ⟨?_, ?_⟩
        · refine ⟨r29.2.err, ((hO.blk (.tail _ (.tail _ (.head _)))).rdv rfl), ?_⟩
          refine ⟨(hO.blk (.tail _ (.tail _ (.tail _ (.tail _ (.tail _ (.head _))))))).wr (Nat.le_of_ble_eq_true rfl), ?_⟩
          intro H56 eH56
          replace hO := oz5 (l' := [Value.slice a50 r29.2.nodes.length k51, I r29.2.root, I r29.2.err, I r29.2.pos]) hO eH56 rfl
          refine ⟨(⟨a50, r29.2.nodes.length, k51, r29.2.root, r29.2.err, r29.2.pos⟩ : TreeT), (hO.blk (.tail _ (.tail _ (.tail _ (.tail _ (.tail _ (.head _))))))).rowT rfl, ?_⟩
          replace hO := close_EM L0 ({ S0 with f := r29.1 }) (pu4 (pu1 (pu4 hO)))
          obtain rfl := Option.some.inj h
          exact hR _ L0 a50 k51 C52 hs53 (dr2 (dr2 (hO)))

        · refine ⟨(hO.blk (.tail _ (.tail _ (.tail _ (.tail _ (.tail _ (.head _))))))).wr (Nat.le_of_ble_eq_true rfl), ?_⟩
          intro H57 eH57
          replace hO := oz5 (l' := [Value.slice a50 r29.2.nodes.length k51, I r29.2.root, I r29.2.err, I r29.2.pos]) hO eH57 rfl
          refine ⟨r29.2.err, ((hO.blk (.tail _ (.tail _ (.head _)))).rdv rfl), ?_⟩
          refine ⟨(⟨a50, r29.2.nodes.length, k51, r29.2.root, r29.2.err, r29.2.pos⟩ : TreeT), (hO.blk (.tail _ (.tail _ (.tail _ (.tail _ (.tail _ (.head _))))))).rowT rfl, ?_⟩
          replace hO := close_EM L0 ({ S0 with f := r29.1 }) (pu4 (pu1 (pu4 hO)))
          obtain rfl := Option.some.inj h
          exact hR _ L0 a50 k51 C52 hs53 (dr2 (dr2 (hO)))




  · replace h := ifTb w22 h
    refine ⟨(hO.blk (.head _)).wr (Nat.le_of_ble_eq_true rfl), ?_⟩
    intro H58 eH58
    replace hO := oz0 (l' := [Value.slice none 0 0, I (0 : Int), I (0 : Int), I (0 : Int)]) hO eH58 rfl
    refine ⟨(⟨none, 0, 0, (0 : Int), (0 : Int), (0 : Int)⟩ : TreeT), (hO.blk (.head _)).rowT rfl, ?_⟩
    replace hO := own_nil hO
    obtain rfl := Option.some.inj h
    exact hR _ L0 none 0 [] shNil (dr2 (pu2 (pu0 hO)))



theorem c147 (z0 : Int) (z1 : Int) (z2 : Int) (z3 : Bool) (r_ : Int) (h : s147 z0 z1 z2 z3 = some r_) (F : List Ent) (H : Heap) (R : Value → Heap → Prop)
    (hO : Own H [] F)
    (hR : ∀ (H' : Heap) , Own H' [] F → R (I r_) H') :
    HCalls Tryz.prog 147 #[I z0, I z1, I z2, Value.bool z3] H R := by
  refine vc147 z0 z1 z2 z3 H R ?_
  unfold s147 at h
  refine ⟨fun w21 => ?_, fun w22 => ?_⟩
  · replace h := ifTb w21 h
    refine ⟨fun w23 => ?_, fun w24 => ?_⟩
    · replace h := ifTd w23 h
      obtain rfl := Option.some.inj h
      exact hR _ hO

    · replace h := ifFd w24 h
      obtain ⟨q25, h⟩ := ckS h
      refine ⟨_, .inl ⟨q25, rfl⟩, ?_⟩
      refine ⟨fun w26 => ?_, fun w27 => ?_⟩
      · replace h := ifTd w26 h
        obtain rfl := Option.some.inj h
        exact hR _ hO

      · replace h := ifFd w27 h
        refine ⟨_, .inl ⟨q25, rfl⟩, ?_⟩
        obtain rfl := Option.some.inj h
        exact hR _ hO



  · replace h := ifFb w22 h
    refine ⟨fun w28 => ?_, fun w29 => ?_⟩
    · replace h := ifTd w28 h
      obtain rfl := Option.some.inj h
      exact hR _ hO

    · replace h := ifFd w29 h
      refine ⟨fun w30 => ?_, fun w31 => ?_⟩
      · replace h := ifTd w30 h
        obtain ⟨q32, h⟩ := ckS h
        refine ⟨q32, ?_⟩
        obtain rfl := Option.some.inj h
        exact hR _ hO

      · replace h := ifFd w31 h
        obtain rfl := Option.some.inj h
        exact hR _ hO





theorem c148  (r_ : NodeT) (h : s148 = r_) (F : List Ent) (H : Heap) (R : Value → Heap → Prop)
    (hO : Own H [] F)
    (hR : ∀ (H' : Heap) , Own H' [] F → R (.agg ⟨encNode r_⟩) H') :
    HCalls Tryz.prog 148 #[] H R := by
  refine vc148  H R ?_
  unfold s148 at h
  intro H21 eH21
  replace hO := own_new (l := encNode (⟨(0 : Int), (0 : Int), (0 : Int), (0 : Int), (0 : Int), (⟨(0 : Int), (0 : Int), false, false⟩ : RefT), (⟨(0 : Int), (0 : Int), false, false⟩ : RefT)⟩ : NodeT)) hO eH21 rfl
  refine ⟨(hO.blk (.head _)).wr (Nat.le_of_ble_eq_true rfl), ?_⟩
  intro H22 eH22
  replace hO := oz0 (l' := encNode (⟨(5 : Int), (0 : Int), (-1 : Int), (-1 : Int), (0 : Int), (⟨(0 : Int), (0 : Int), false, false⟩ : RefT), (⟨(0 : Int), (0 : Int), false, false⟩ : RefT)⟩ : NodeT)) hO eH22 rfl
  refine ⟨(⟨(5 : Int), (0 : Int), (-1 : Int), (-1 : Int), (0 : Int), (⟨(0 : Int), (0 : Int), false, false⟩ : RefT), (⟨(0 : Int), (0 : Int), false, false⟩ : RefT)⟩ : NodeT), (hO.blk (.head _)).rowT rfl, ?_⟩
  subst h
  exact hR _ (dr0 (hO))


theorem c150 (z0 : Int) (z1 : Int) (z2 : Int) (z3 : Int) (z4 : Bool) (r_ : Int × Int) (h : s150 z0 z1 z2 z3 z4 = some r_) (F : List Ent) (H : Heap) (R : Value → Heap → Prop)
    (hO : Own H [] F)
    (hR : ∀ (H' : Heap) , Own H' [] F → R (.tuple #[I r_.1, I r_.2]) H') :
    HCalls Tryz.prog 150 #[I z0, I z1, I z2, I z3, Value.bool z4] H R := by
  refine vc150 z0 z1 z2 z3 z4 H R ?_
  unfold s150 at h
  refine ⟨fun w21 => ?_, fun w22 => ?_⟩
  · replace h := ifTb w21 h
    refine ⟨fun l Hc => Own Hc [] F ∧ (k150_2 z1 z2 z3 (asI (nth l 0))) = some r_, ?_, ?_⟩
    · refine ⟨fun w40 => ?_, fun w41 => ?_⟩
      · replace h := ifTd w40 h
        obtain ⟨q42, h⟩ := ckS h
        refine ⟨_, .inl ⟨q42, rfl⟩, ?_⟩
        exact ⟨hO, h⟩

      · replace h := ifFd w41 h
        exact ⟨hO, h⟩


    · clear hO h
      intro H23 u24 x25 hJ
      obtain ⟨hO, h⟩ := hJ
      replace h : (k150_2 z1 z2 z3 x25) = some r_ := h
      unfold k150_2 at h
      refine ⟨fun l Hc => Own Hc [] F ∧ (k150_1 z2 x25 (asI (nth l 0))) = some r_, ?_, ?_⟩
      · refine ⟨fun w37 => ?_, fun w38 => ?_⟩
        · replace h := ifTd w37 h
          obtain ⟨q39, h⟩ := ckS h
          refine ⟨_, .inl ⟨q39, rfl⟩, ?_⟩
          exact ⟨hO, h⟩

        · replace h := ifFd w38 h
          exact ⟨hO, h⟩


      · clear hO h
        intro H26 u27 x28 hJ
        obtain ⟨hO, h⟩ := hJ
        replace h : (k150_1 z2 x25 x28) = some r_ := h
        unfold k150_1 at h
        refine ⟨fun w29 => ?_, fun w30 => ?_⟩
        · replace h := ifTd w29 h
          obtain rfl := Option.some.inj h
          exact hR _ hO

        · replace h := ifFd w30 h
          refine ⟨fun l Hc => Own Hc [] F ∧ (k150_0 x25 (asI (nth l 0))) = some r_, ?_, ?_⟩
          · refine ⟨fun w34 => ?_, fun w35 => ?_⟩
            · replace h := ifTd w34 h
              obtain ⟨q36, h⟩ := ckS h
              refine ⟨q36, ?_⟩
              exact ⟨hO, h⟩

            · replace h := ifFd w35 h
              exact ⟨hO, h⟩


          · clear hO h
            intro H31 u32 x33 hJ
            obtain ⟨hO, h⟩ := hJ
            replace h : (k150_0 x25 x33) = some r_ := h
            unfold k150_0 at h
            obtain rfl := Option.some.inj h
            exact hR _ hO





  · replace h := ifFb w22 h
    refine ⟨fun w43 => ?_, fun w44 => ?_⟩
    · replace h := ifTd w43 h
      refine ⟨fun w45 => ?_, fun w46 => ?_⟩
      · replace h := ifTd w45 h
        obtain rfl := Option.some.inj h
        exact hR _ hO

      · replace h := ifFd w46 h
        refine ⟨fun l Hc => Own Hc [] F ∧ (k150_4 z1 z3 (asI (nth l 0))) = some r_, ?_, ?_⟩
        · refine ⟨fun w56 => ?_, fun w57 => ?_⟩
          · replace h := ifTd w56 h
            obtain ⟨q58, h⟩ := ckS h
            refine ⟨q58, ?_⟩
            exact ⟨hO, h⟩

          · replace h := ifFd w57 h
            exact ⟨hO, h⟩


        · clear hO h
          intro H47 u48 x49 hJ
          obtain ⟨hO, h⟩ := hJ
          replace h : (k150_4 z1 z3 x49) = some r_ := h
          unfold k150_4 at h
          refine ⟨fun l Hc => Own Hc [] F ∧ (k150_0 x49 (asI (nth l 0))) = some r_, ?_, ?_⟩
          · refine ⟨fun w53 => ?_, fun w54 => ?_⟩
            · replace h := ifTd w53 h
              obtain ⟨q55, h⟩ := ckS h
              refine ⟨q55, ?_⟩
              exact ⟨hO, h⟩

            · replace h := ifFd w54 h
              exact ⟨hO, h⟩


          · clear hO h
            intro H50 u51 x52 hJ
            obtain ⟨hO, h⟩ := hJ
            replace h : (k150_0 x49 x52) = some r_ := h
            unfold k150_0 at h
            obtain rfl := Option.some.inj h
            exact hR _ hO




    · replace h := ifFd w44 h
      refine ⟨fun l Hc => Own Hc [] F ∧ (k150_4 z1 z3 (asI (nth l 0))) = some r_, ?_, ?_⟩
      · refine ⟨fun w68 => ?_, fun w69 => ?_⟩
        · replace h := ifTd w68 h
          obtain ⟨q70, h⟩ := ckS h
          refine ⟨q70, ?_⟩
          exact ⟨hO, h⟩

        · replace h := ifFd w69 h
          exact ⟨hO, h⟩


      · clear hO h
        intro H59 u60 x61 hJ
        obtain ⟨hO, h⟩ := hJ
        replace h : (k150_4 z1 z3 x61) = some r_ := h
        unfold k150_4 at h
        refine ⟨fun l Hc => Own Hc [] F ∧ (k150_0 x61 (asI (nth l 0))) = some r_, ?_, ?_⟩
        · refine ⟨fun w65 => ?_, fun w66 => ?_⟩
          · replace h := ifTd w65 h
            obtain ⟨q67, h⟩ := ckS h
            refine ⟨q67, ?_⟩
            exact ⟨hO, h⟩

          · replace h := ifFd w66 h
            exact ⟨hO, h⟩


        · clear hO h
          intro H62 u63 x64 hJ
          obtain ⟨hO, h⟩ := hJ
          replace h : (k150_0 x61 x64) = some r_ := h
          unfold k150_0 at h
          obtain rfl := Option.some.inj h
          exact hR _ hO






theorem c122 (n_ : Nat) (z0 : NodeT) (z1 : Int) (z2 : Int) (r_ : NodeT) (h : s122 n_ z0 z1 z2 = some r_) (F : List Ent) (H : Heap) (R : Value → Heap → Prop)
    (hO : Own H [] F)
    (hR : ∀ (H' : Heap) , Own H' [] F → R (.agg ⟨encNode r_⟩) H') :
    HCalls Tryz.prog 122 #[Value.agg ⟨encNode z0⟩, I z1, I z2] H R := by
  refine vc122 z0 z1 z2 H R ?_
  unfold s122 at h
  intro H21 eH21
  replace hO := own_new (l := encNode z0) hO eH21 rfl
  intro H22 eH22
  replace hO := own_new (l := encNode (⟨(0 : Int), (0 : Int), (0 : Int), (0 : Int), (0 : Int), (⟨(0 : Int), (0 : Int), false, false⟩ : RefT), (⟨(0 : Int), (0 : Int), false, false⟩ : RefT)⟩ : NodeT)) hO eH22 rfl
  refine ⟨fun w24 => ?_, fun w23 => ?_⟩
  · replace h := ifFd w24 h
    refine ⟨fun _ => ?_, fun c => (by simp [w24] at c)⟩
    refine ⟨z0.kind, ((hO.blk (.tail _ (.head _))).rdv rfl), ?_⟩
    refine ⟨fun w25 => ?_, fun w26 => ?_⟩
    · replace h := ifTd w25 h
      refine ⟨z0.r1, (hO.blk (.tail _ (.head _))).rowT rfl, ?_⟩
      refine c116 z0.r1 _ rfl _ _ _ (fr0 hO) (fun H27 hO => ?_)
      replace hO := un0 hO
      refine ⟨(s116 z0.r1), rfl, ?_⟩
      refine ⟨fun w28 => ?_, fun w29 => ?_⟩
      · replace h := ifTb w28 h
        refine ⟨fun l Hc => ∃ t47 : NodeT, Own Hc [cellE 153 H21.size (encNode (⟨(0 : Int), (0 : Int), (0 : Int), (0 : Int), (0 : Int), (⟨(0 : Int), (0 : Int), false, false⟩ : RefT), (⟨(0 : Int), (0 : Int), false, false⟩ : RefT)⟩ : NodeT)), cellE 153 H.size (encNode t47)] F ∧ (k122_1 t47) = some r_, ?_, ?_⟩
        · refine ⟨fun w59 => ?_, fun w60 => ?_⟩
          · replace h := ifTd w59 h
            refine ⟨z0.r1.row, ((hO.blk (.tail _ (.head _))).rdv rfl), ?_⟩
            obtain ⟨r61, e62, h⟩ := bindS h
            refine c147 z0.r1.row (6 : Int) z2 (decide (z1 = (3 : Int))) r61 e62 _ _ _ (fr0 hO) (fun H63 hO => ?_)
            replace hO := un0 hO
            refine ⟨r61, rfl, ?_⟩
            refine ⟨(hO.blk (.tail _ (.head _))).wr (Nat.le_of_ble_eq_true rfl), ?_⟩
            intro H64 eH64
            replace hO := os1 (l' := encNode ({ z0 with r1 := { z0.r1 with row := r61 } })) hO eH64 rfl
            exact ⟨({ z0 with r1 := { z0.r1 with row := r61 } }), hO, h⟩

          · replace h := ifFd w60 h
            refine ⟨z0.r1.col, ((hO.blk (.tail _ (.head _))).rdv rfl), ?_⟩
            obtain ⟨r65, e66, h⟩ := bindS h
            refine c147 z0.r1.col (4 : Int) z2 (decide (z1 = (3 : Int))) r65 e66 _ _ _ (fr0 hO) (fun H67 hO => ?_)
            replace hO := un0 hO
            refine ⟨r65, rfl, ?_⟩
            refine ⟨(hO.blk (.tail _ (.head _))).wr (Nat.le_of_ble_eq_true rfl), ?_⟩
            intro H68 eH68
            replace hO := os1 (l' := encNode ({ z0 with r1 := { z0.r1 with col := r65 } })) hO eH68 rfl
            exact ⟨({ z0 with r1 := { z0.r1 with col := r65 } }), hO, h⟩


        · clear hO h
          intro H48 u49  hJ
          obtain ⟨t47, hO, h⟩ := hJ
          replace h : (k122_1 t47) = some r_ := h
          unfold k122_1 at h
          refine ⟨t47.r1.row, ((hO.blk (.tail _ (.head _))).rdv rfl), ?_⟩
          refine ⟨fun w51 => ?_, fun w50 => ?_⟩
          · replace h := ifFd w51 h
            refine ⟨t47.r1.col, ((hO.blk (.tail _ (.head _))).rdv rfl), ?_⟩
            refine ⟨fun w52 => ?_, fun w53 => ?_⟩
            · replace h := ifTd w52 h
              refine c148 _ rfl _ _ _ (fr0 hO) (fun H54 hO => ?_)
              replace hO := un0 hO
              refine ⟨s148, rfl, ?_⟩
              refine ⟨(hO.blk (.head _)).wr (Nat.le_of_ble_eq_true rfl), ?_⟩
              intro H55 eH55
              replace hO := oz0 (l' := encNode s148) hO eH55 rfl
              refine ⟨s148, (hO.blk (.head _)).rowT rfl, ?_⟩
              obtain rfl := Option.some.inj h
              exact hR _ (dr0 (dr0 (hO)))

            · replace h := ifFd w53 h
              refine ⟨t47, (hO.blk (.tail _ (.head _))).rowT rfl, ?_⟩
              refine ⟨(hO.blk (.head _)).wr (Nat.le_of_ble_eq_true rfl), ?_⟩
              intro H56 eH56
              replace hO := oz0 (l' := encNode t47) hO eH56 rfl
              refine ⟨t47, (hO.blk (.head _)).rowT rfl, ?_⟩
              obtain rfl := Option.some.inj h
              exact hR _ (dr0 (dr0 (hO)))


          · replace h := ifTd w50 h
            refine c148 _ rfl _ _ _ (fr0 hO) (fun H57 hO => ?_)
            replace hO := un0 hO
            refine ⟨s148, rfl, ?_⟩
            refine ⟨(hO.blk (.head _)).wr (Nat.le_of_ble_eq_true rfl), ?_⟩
            intro H58 eH58
            replace hO := oz0 (l' := encNode s148) hO eH58 rfl
            refine ⟨s148, (hO.blk (.head _)).rowT rfl, ?_⟩
            obtain rfl := Option.some.inj h
            exact hR _ (dr0 (dr0 (hO)))



      · replace h := ifFb w29 h
        refine ⟨z0.kind, ((hO.blk (.tail _ (.head _))).rdv rfl), ?_⟩
        refine ⟨fun w69 => ?_, fun w70 => ?_⟩
        · replace w69 := bnotT w69
          replace h := ifFd w69 h
          refine ⟨z0, (hO.blk (.tail _ (.head _))).rowT rfl, ?_⟩
          refine ⟨(hO.blk (.head _)).wr (Nat.le_of_ble_eq_true rfl), ?_⟩
          intro H71 eH71
          replace hO := oz0 (l' := encNode z0) hO eH71 rfl
          refine ⟨z0, (hO.blk (.head _)).rowT rfl, ?_⟩
          obtain rfl := Option.some.inj h
          exact hR _ (dr0 (dr0 (hO)))

        · replace w70 := bnotF w70
          replace h := ifTd w70 h
          refine ⟨z0.r1, (hO.blk (.tail _ (.head _))).rowT rfl, ?_⟩
          refine ⟨z0.r2, (hO.blk (.tail _ (.head _))).rowT rfl, ?_⟩
          obtain ⟨r72, e73, h⟩ := bindS h
          refine c149 n_ z0.r1 z0.r2 r72 e73 _ _ _ (fr0 hO) (fun H74 hO => ?_)
          replace hO := un0 hO
          refine ⟨r72.1, r72.2, rfl, ?_⟩
          refine ⟨fun w75 => ?_, fun w76 => ?_⟩
          · replace w75 := bnotT w75
            replace h := ifFb w75 h
            refine ⟨z0, (hO.blk (.tail _ (.head _))).rowT rfl, ?_⟩
            refine ⟨(hO.blk (.head _)).wr (Nat.le_of_ble_eq_true rfl), ?_⟩
            intro H77 eH77
            replace hO := oz0 (l' := encNode z0) hO eH77 rfl
            refine ⟨z0, (hO.blk (.head _)).rowT rfl, ?_⟩
            obtain rfl := Option.some.inj h
            exact hR _ (dr0 (dr0 (hO)))

          · replace w76 := bnotF w76
            replace h := ifTb w76 h
            refine ⟨z0.r1.col, ((hO.blk (.tail _ (.head _))).rdv rfl), ?_⟩
            refine ⟨z0.r2.col, ((hO.blk (.tail _ (.head _))).rdv rfl), ?_⟩
            refine ⟨fun l Hc => Own Hc [cellE 153 H21.size (encNode (⟨(0 : Int), (0 : Int), (0 : Int), (0 : Int), (0 : Int), (⟨(0 : Int), (0 : Int), false, false⟩ : RefT), (⟨(0 : Int), (0 : Int), false, false⟩ : RefT)⟩ : NodeT)), cellE 153 H.size (encNode z0)] F ∧ (k122_4 z0 z1 z2 (asI (nth l 0)) (asI (nth l 1)) (asI (nth l 2))) = some r_, ?_, ?_⟩
            · refine ⟨fun w110 => ?_, fun w111 => ?_⟩
              · replace h := ifTd w110 h
                refine ⟨z0.r1.row, ((hO.blk (.tail _ (.head _))).rdv rfl), ?_⟩
                refine ⟨z0.r2.row, ((hO.blk (.tail _ (.head _))).rdv rfl), ?_⟩
                exact ⟨hO, h⟩

              · replace h := ifFd w111 h
                exact ⟨hO, h⟩


            · clear hO h
              intro H78 u79 x80 x81 x82 hJ
              obtain ⟨hO, h⟩ := hJ
              replace h : (k122_4 z0 z1 z2 x80 x81 x82) = some r_ := h
              unfold k122_4 at h
              refine ⟨fun l Hc => Own Hc [cellE 153 H21.size (encNode (⟨(0 : Int), (0 : Int), (0 : Int), (0 : Int), (0 : Int), (⟨(0 : Int), (0 : Int), false, false⟩ : RefT), (⟨(0 : Int), (0 : Int), false, false⟩ : RefT)⟩ : NodeT)), cellE 153 H.size (encNode z0)] F ∧ (k122_3 z0 z1 z2 x80 x81 x82 (asI (nth l 0)) (asI (nth l 1))) = some r_, ?_, ?_⟩
              · refine ⟨fun w108 => ?_, fun w109 => ?_⟩
                · replace h := ifTd w108 h
                  exact ⟨hO, h⟩

                · replace h := ifFd w109 h
                  exact ⟨hO, h⟩


              · clear hO h
                intro H83 u84 x85 x86 hJ
                obtain ⟨hO, h⟩ := hJ
                replace h : (k122_3 z0 z1 z2 x80 x81 x82 x85 x86) = some r_ := h
                unfold k122_3 at h
                obtain ⟨r87, e88, h⟩ := bindS h
                refine c150 x85 x86 x82 z2 (decide (z1 = (3 : Int))) r87 e88 _ _ _ (fr0 hO) (fun H89 hO => ?_)
                replace hO := un0 hO
                refine ⟨r87.1, r87.2, rfl, ?_⟩
                refine ⟨fun w90 => ?_, fun w91 => ?_⟩
                · replace h := ifTd w90 h
                  refine c148 _ rfl _ _ _ (fr0 hO) (fun H92 hO => ?_)
                  replace hO := un0 hO
                  refine ⟨s148, rfl, ?_⟩
                  refine ⟨(hO.blk (.head _)).wr (Nat.le_of_ble_eq_true rfl), ?_⟩
                  intro H93 eH93
                  replace hO := oz0 (l' := encNode s148) hO eH93 rfl
                  refine ⟨s148, (hO.blk (.head _)).rowT rfl, ?_⟩
                  obtain rfl := Option.some.inj h
                  exact hR _ (dr0 (dr0 (hO)))

                · replace h := ifFd w91 h
                  refine ⟨fun l Hc => Own Hc [cellE 153 H21.size (encNode (⟨(0 : Int), (0 : Int), (0 : Int), (0 : Int), (0 : Int), (⟨(0 : Int), (0 : Int), false, false⟩ : RefT), (⟨(0 : Int), (0 : Int), false, false⟩ : RefT)⟩ : NodeT)), cellE 153 H.size (encNode z0)] F ∧ (k122_2 z0 z1 (asI (nth l 0)) (asI (nth l 1))) = some r_, ?_, ?_⟩
                  · refine ⟨fun w106 => ?_, fun w107 => ?_⟩
                    · replace h := ifTd w106 h
                      exact ⟨hO, h⟩

                    · replace h := ifFd w107 h
                      exact ⟨hO, h⟩


                  · clear hO h
                    intro H94 u95 x96 x97 hJ
                    obtain ⟨hO, h⟩ := hJ
                    replace h : (k122_2 z0 z1 x96 x97) = some r_ := h
                    unfold k122_2 at h
                    refine ⟨fun w98 => ?_, fun w99 => ?_⟩
                    · replace h := ifTd w98 h
                      refine ⟨(hO.blk (.tail _ (.head _))).wr (Nat.le_of_ble_eq_true rfl), ?_⟩
                      intro H100 eH100
                      replace hO := os1 (l' := encNode ({ z0 with r1 := { z0.r1 with row := x96 } })) hO eH100 rfl
                      refine ⟨(hO.blk (.tail _ (.head _))).wr (Nat.le_of_ble_eq_true rfl), ?_⟩
                      intro H101 eH101
                      replace hO := os1 (l' := encNode ({ z0 with r1 := { z0.r1 with row := x96 }, r2 := { z0.r2 with row := x97 } })) hO eH101 rfl
                      refine ⟨{ z0 with r1 := { z0.r1 with row := x96 }, r2 := { z0.r2 with row := x97 } }, (hO.blk (.tail _ (.head _))).rowT rfl, ?_⟩
                      refine ⟨(hO.blk (.head _)).wr (Nat.le_of_ble_eq_true rfl), ?_⟩
                      intro H102 eH102
                      replace hO := oz0 (l' := encNode ({ z0 with r1 := { z0.r1 with row := x96 }, r2 := { z0.r2 with row := x97 } })) hO eH102 rfl
                      refine ⟨{ z0 with r1 := { z0.r1 with row := x96 }, r2 := { z0.r2 with row := x97 } }, (hO.blk (.head _)).rowT rfl, ?_⟩
                      obtain rfl := Option.some.inj h
                      exact hR _ (dr0 (dr0 (hO)))

                    · replace h := ifFd w99 h
                      refine ⟨(hO.blk (.tail _ (.head _))).wr (Nat.le_of_ble_eq_true rfl), ?_⟩
                      intro H103 eH103
                      replace hO := os1 (l' := encNode ({ z0 with r1 := { z0.r1 with col := x96 } })) hO eH103 rfl
                      refine ⟨(hO.blk (.tail _ (.head _))).wr (Nat.le_of_ble_eq_true rfl), ?_⟩
                      intro H104 eH104
                      replace hO := os1 (l' := encNode ({ z0 with r1 := { z0.r1 with col := x96 }, r2 := { z0.r2 with col := x97 } })) hO eH104 rfl
                      refine ⟨{ z0 with r1 := { z0.r1 with col := x96 }, r2 := { z0.r2 with col := x97 } }, (hO.blk (.tail _ (.head _))).rowT rfl, ?_⟩
                      refine ⟨(hO.blk (.head _)).wr (Nat.le_of_ble_eq_true rfl), ?_⟩
                      intro H105 eH105
                      replace hO := oz0 (l' := encNode ({ z0 with r1 := { z0.r1 with col := x96 }, r2 := { z0.r2 with col := x97 } })) hO eH105 rfl
                      refine ⟨{ z0 with r1 := { z0.r1 with col := x96 }, r2 := { z0.r2 with col := x97 } }, (hO.blk (.head _)).rowT rfl, ?_⟩
                      obtain rfl := Option.some.inj h
                      exact hR _ (dr0 (dr0 (hO)))









    · replace h := ifFd w26 h
      refine ⟨z0.kind, ((hO.blk (.tail _ (.head _))).rdv rfl), ?_⟩
      refine ⟨fun w112 => ?_, fun w113 => ?_⟩
      · replace w112 := bnotT w112
        replace h := ifFd w112 h
        refine ⟨z0, (hO.blk (.tail _ (.head _))).rowT rfl, ?_⟩
        refine ⟨(hO.blk (.head _)).wr (Nat.le_of_ble_eq_true rfl), ?_⟩
        intro H114 eH114
        replace hO := oz0 (l' := encNode z0) hO eH114 rfl
        refine ⟨z0, (hO.blk (.head _)).rowT rfl, ?_⟩
        obtain rfl := Option.some.inj h
        exact hR _ (dr0 (dr0 (hO)))

      · replace w113 := bnotF w113
        replace h := ifTd w113 h
        refine ⟨z0.r1, (hO.blk (.tail _ (.head _))).rowT rfl, ?_⟩
        refine ⟨z0.r2, (hO.blk (.tail _ (.head _))).rowT rfl, ?_⟩
        obtain ⟨r115, e116, h⟩ := bindS h
        refine c149 n_ z0.r1 z0.r2 r115 e116 _ _ _ (fr0 hO) (fun H117 hO => ?_)
        replace hO := un0 hO
        refine ⟨r115.1, r115.2, rfl, ?_⟩
        refine ⟨fun w118 => ?_, fun w119 => ?_⟩
        · replace w118 := bnotT w118
          replace h := ifFb w118 h
          refine ⟨z0, (hO.blk (.tail _ (.head _))).rowT rfl, ?_⟩
          refine ⟨(hO.blk (.head _)).wr (Nat.le_of_ble_eq_true rfl), ?_⟩
          intro H120 eH120
          replace hO := oz0 (l' := encNode z0) hO eH120 rfl
          refine ⟨z0, (hO.blk (.head _)).rowT rfl, ?_⟩
          obtain rfl := Option.some.inj h
          exact hR _ (dr0 (dr0 (hO)))

        · replace w119 := bnotF w119
          replace h := ifTb w119 h
          refine ⟨z0.r1.col, ((hO.blk (.tail _ (.head _))).rdv rfl), ?_⟩
          refine ⟨z0.r2.col, ((hO.blk (.tail _ (.head _))).rdv rfl), ?_⟩
          refine ⟨fun l Hc => Own Hc [cellE 153 H21.size (encNode (⟨(0 : Int), (0 : Int), (0 : Int), (0 : Int), (0 : Int), (⟨(0 : Int), (0 : Int), false, false⟩ : RefT), (⟨(0 : Int), (0 : Int), false, false⟩ : RefT)⟩ : NodeT)), cellE 153 H.size (encNode z0)] F ∧ (k122_4 z0 z1 z2 (asI (nth l 0)) (asI (nth l 1)) (asI (nth l 2))) = some r_, ?_, ?_⟩
          · refine ⟨fun w153 => ?_, fun w154 => ?_⟩
            · replace h := ifTd w153 h
              refine ⟨z0.r1.row, ((hO.blk (.tail _ (.head _))).rdv rfl), ?_⟩
              refine ⟨z0.r2.row, ((hO.blk (.tail _ (.head _))).rdv rfl), ?_⟩
              exact ⟨hO, h⟩

            · replace h := ifFd w154 h
              exact ⟨hO, h⟩


          · clear hO h
            intro H121 u122 x123 x124 x125 hJ
            obtain ⟨hO, h⟩ := hJ
            replace h : (k122_4 z0 z1 z2 x123 x124 x125) = some r_ := h
            unfold k122_4 at h
            refine ⟨fun l Hc => Own Hc [cellE 153 H21.size (encNode (⟨(0 : Int), (0 : Int), (0 : Int), (0 : Int), (0 : Int), (⟨(0 : Int), (0 : Int), false, false⟩ : RefT), (⟨(0 : Int), (0 : Int), false, false⟩ : RefT)⟩ : NodeT)), cellE 153 H.size (encNode z0)] F ∧ (k122_3 z0 z1 z2 x123 x124 x125 (asI (nth l 0)) (asI (nth l 1))) = some r_, ?_, ?_⟩
            · refine ⟨fun w151 => ?_, fun w152 => ?_⟩
              · replace h := ifTd w151 h
                exact ⟨hO, h⟩

              · replace h := ifFd w152 h
                exact ⟨hO, h⟩


            · clear hO h
              intro H126 u127 x128 x129 hJ
              obtain ⟨hO, h⟩ := hJ
              replace h : (k122_3 z0 z1 z2 x123 x124 x125 x128 x129) = some r_ := h
              unfold k122_3 at h
              obtain ⟨r130, e131, h⟩ := bindS h
              refine c150 x128 x129 x125 z2 (decide (z1 = (3 : Int))) r130 e131 _ _ _ (fr0 hO) (fun H132 hO => ?_)
              replace hO := un0 hO
              refine ⟨r130.1, r130.2, rfl, ?_⟩
              refine ⟨fun w133 => ?_, fun w134 => ?_⟩
              · replace h := ifTd w133 h
                refine c148 _ rfl _ _ _ (fr0 hO) (fun H135 hO => ?_)
                replace hO := un0 hO
                refine ⟨s148, rfl, ?_⟩
                refine ⟨(hO.blk (.head _)).wr (Nat.le_of_ble_eq_true rfl), ?_⟩
                intro H136 eH136
                replace hO := oz0 (l' := encNode s148) hO eH136 rfl
                refine ⟨s148, (hO.blk (.head _)).rowT rfl, ?_⟩
                obtain rfl := Option.some.inj h
                exact hR _ (dr0 (dr0 (hO)))

              · replace h := ifFd w134 h
                refine ⟨fun l Hc => Own Hc [cellE 153 H21.size (encNode (⟨(0 : Int), (0 : Int), (0 : Int), (0 : Int), (0 : Int), (⟨(0 : Int), (0 : Int), false, false⟩ : RefT), (⟨(0 : Int), (0 : Int), false, false⟩ : RefT)⟩ : NodeT)), cellE 153 H.size (encNode z0)] F ∧ (k122_2 z0 z1 (asI (nth l 0)) (asI (nth l 1))) = some r_, ?_, ?_⟩
                · refine ⟨fun w149 => ?_, fun w150 => ?_⟩
                  · replace h := ifTd w149 h
                    exact ⟨hO, h⟩

                  · replace h := ifFd w150 h
                    exact ⟨hO, h⟩


                · clear hO h
                  intro H137 u138 x139 x140 hJ
                  obtain ⟨hO, h⟩ := hJ
                  replace h : (k122_2 z0 z1 x139 x140) = some r_ := h
                  unfold k122_2 at h
                  refine ⟨fun w141 => ?_, fun w142 => ?_⟩
                  · replace h := ifTd w141 h
                    refine ⟨(hO.blk (.tail _ (.head _))).wr (Nat.le_of_ble_eq_true rfl), ?_⟩
                    intro H143 eH143
                    replace hO := os1 (l' := encNode ({ z0 with r1 := { z0.r1 with row := x139 } })) hO eH143 rfl
                    refine ⟨(hO.blk (.tail _ (.head _))).wr (Nat.le_of_ble_eq_true rfl), ?_⟩
                    intro H144 eH144
                    replace hO := os1 (l' := encNode ({ z0 with r1 := { z0.r1 with row := x139 }, r2 := { z0.r2 with row := x140 } })) hO eH144 rfl
                    refine ⟨{ z0 with r1 := { z0.r1 with row := x139 }, r2 := { z0.r2 with row := x140 } }, (hO.blk (.tail _ (.head _))).rowT rfl, ?_⟩
                    refine ⟨(hO.blk (.head _)).wr (Nat.le_of_ble_eq_true rfl), ?_⟩
                    intro H145 eH145
                    replace hO := oz0 (l' := encNode ({ z0 with r1 := { z0.r1 with row := x139 }, r2 := { z0.r2 with row := x140 } })) hO eH145 rfl
                    refine ⟨{ z0 with r1 := { z0.r1 with row := x139 }, r2 := { z0.r2 with row := x140 } }, (hO.blk (.head _)).rowT rfl, ?_⟩
                    obtain rfl := Option.some.inj h
                    exact hR _ (dr0 (dr0 (hO)))

                  · replace h := ifFd w142 h
                    refine ⟨(hO.blk (.tail _ (.head _))).wr (Nat.le_of_ble_eq_true rfl), ?_⟩
                    intro H146 eH146
                    replace hO := os1 (l' := encNode ({ z0 with r1 := { z0.r1 with col := x139 } })) hO eH146 rfl
                    refine ⟨(hO.blk (.tail _ (.head _))).wr (Nat.le_of_ble_eq_true rfl), ?_⟩
                    intro H147 eH147
                    replace hO := os1 (l' := encNode ({ z0 with r1 := { z0.r1 with col := x139 }, r2 := { z0.r2 with col := x140 } })) hO eH147 rfl
                    refine ⟨{ z0 with r1 := { z0.r1 with col := x139 }, r2 := { z0.r2 with col := x140 } }, (hO.blk (.tail _ (.head _))).rowT rfl, ?_⟩
                    refine ⟨(hO.blk (.head _)).wr (Nat.le_of_ble_eq_true rfl), ?_⟩
                    intro H148 eH148
                    replace hO := oz0 (l' := encNode ({ z0 with r1 := { z0.r1 with col := x139 }, r2 := { z0.r2 with col := x140 } })) hO eH148 rfl
                    refine ⟨{ z0 with r1 := { z0.r1 with col := x139 }, r2 := { z0.r2 with col := x140 } }, (hO.blk (.head _)).rowT rfl, ?_⟩
                    obtain rfl := Option.some.inj h
                    exact hR _ (dr0 (dr0 (hO)))









  · replace h := ifTd w23 h
    refine ⟨fun c => (by simp [w23] at c), fun _ => ?_⟩
    refine ⟨z0.kind, ((hO.blk (.tail _ (.head _))).rdv rfl), ?_⟩
    refine ⟨fun w155 => ?_, fun w156 => ?_⟩
    · replace h := ifTd w155 h
      refine ⟨z0.r1, (hO.blk (.tail _ (.head _))).rowT rfl, ?_⟩
      refine c116 z0.r1 _ rfl _ _ _ (fr0 hO) (fun H157 hO => ?_)
      replace hO := un0 hO
      refine ⟨(s116 z0.r1), rfl, ?_⟩
      refine ⟨fun w158 => ?_, fun w159 => ?_⟩
      · replace h := ifTb w158 h
        refine ⟨fun l Hc => ∃ t175 : NodeT, Own Hc [cellE 153 H21.size (encNode (⟨(0 : Int), (0 : Int), (0 : Int), (0 : Int), (0 : Int), (⟨(0 : Int), (0 : Int), false, false⟩ : RefT), (⟨(0 : Int), (0 : Int), false, false⟩ : RefT)⟩ : NodeT)), cellE 153 H.size (encNode t175)] F ∧ (k122_1 t175) = some r_, ?_, ?_⟩
        · refine ⟨z0.r1.row, ((hO.blk (.tail _ (.head _))).rdv rfl), ?_⟩
          obtain ⟨r187, e188, h⟩ := bindS h
          refine c147 z0.r1.row (6 : Int) z2 true r187 e188 _ _ _ (fr0 hO) (fun H189 hO => ?_)
          replace hO := un0 hO
          refine ⟨r187, rfl, ?_⟩
          refine ⟨(hO.blk (.tail _ (.head _))).wr (Nat.le_of_ble_eq_true rfl), ?_⟩
          intro H190 eH190
          replace hO := os1 (l' := encNode ({ z0 with r1 := { z0.r1 with row := r187 } })) hO eH190 rfl
          exact ⟨({ z0 with r1 := { z0.r1 with row := r187 } }), hO, h⟩

        · clear hO h
          intro H176 u177  hJ
          obtain ⟨t175, hO, h⟩ := hJ
          replace h : (k122_1 t175) = some r_ := h
          unfold k122_1 at h
          refine ⟨t175.r1.row, ((hO.blk (.tail _ (.head _))).rdv rfl), ?_⟩
          refine ⟨fun w179 => ?_, fun w178 => ?_⟩
          · replace h := ifFd w179 h
            refine ⟨t175.r1.col, ((hO.blk (.tail _ (.head _))).rdv rfl), ?_⟩
            refine ⟨fun w180 => ?_, fun w181 => ?_⟩
            · replace h := ifTd w180 h
              refine c148 _ rfl _ _ _ (fr0 hO) (fun H182 hO => ?_)
              replace hO := un0 hO
              refine ⟨s148, rfl, ?_⟩
              refine ⟨(hO.blk (.head _)).wr (Nat.le_of_ble_eq_true rfl), ?_⟩
              intro H183 eH183
              replace hO := oz0 (l' := encNode s148) hO eH183 rfl
              refine ⟨s148, (hO.blk (.head _)).rowT rfl, ?_⟩
              obtain rfl := Option.some.inj h
              exact hR _ (dr0 (dr0 (hO)))

            · replace h := ifFd w181 h
              refine ⟨t175, (hO.blk (.tail _ (.head _))).rowT rfl, ?_⟩
              refine ⟨(hO.blk (.head _)).wr (Nat.le_of_ble_eq_true rfl), ?_⟩
              intro H184 eH184
              replace hO := oz0 (l' := encNode t175) hO eH184 rfl
              refine ⟨t175, (hO.blk (.head _)).rowT rfl, ?_⟩
              obtain rfl := Option.some.inj h
              exact hR _ (dr0 (dr0 (hO)))


          · replace h := ifTd w178 h
            refine c148 _ rfl _ _ _ (fr0 hO) (fun H185 hO => ?_)
            replace hO := un0 hO
            refine ⟨s148, rfl, ?_⟩
            refine ⟨(hO.blk (.head _)).wr (Nat.le_of_ble_eq_true rfl), ?_⟩
            intro H186 eH186
            replace hO := oz0 (l' := encNode s148) hO eH186 rfl
            refine ⟨s148, (hO.blk (.head _)).rowT rfl, ?_⟩
            obtain rfl := Option.some.inj h
            exact hR _ (dr0 (dr0 (hO)))



      · replace h := ifFb w159 h
        refine ⟨z0.kind, ((hO.blk (.tail _ (.head _))).rdv rfl), ?_⟩
        refine ⟨fun w191 => ?_, fun w192 => ?_⟩
        · replace w191 := bnotT w191
          replace h := ifFd w191 h
          refine ⟨z0, (hO.blk (.tail _ (.head _))).rowT rfl, ?_⟩
          refine ⟨(hO.blk (.head _)).wr (Nat.le_of_ble_eq_true rfl), ?_⟩
          intro H193 eH193
          replace hO := oz0 (l' := encNode z0) hO eH193 rfl
          refine ⟨z0, (hO.blk (.head _)).rowT rfl, ?_⟩
          obtain rfl := Option.some.inj h
          exact hR _ (dr0 (dr0 (hO)))

        · replace w192 := bnotF w192
          replace h := ifTd w192 h
          refine ⟨z0.r1, (hO.blk (.tail _ (.head _))).rowT rfl, ?_⟩
          refine ⟨z0.r2, (hO.blk (.tail _ (.head _))).rowT rfl, ?_⟩
          obtain ⟨r194, e195, h⟩ := bindS h
          refine c149 n_ z0.r1 z0.r2 r194 e195 _ _ _ (fr0 hO) (fun H196 hO => ?_)
          replace hO := un0 hO
          refine ⟨r194.1, r194.2, rfl, ?_⟩
          refine ⟨fun w197 => ?_, fun w198 => ?_⟩
          · replace w197 := bnotT w197
            replace h := ifFb w197 h
            refine ⟨z0, (hO.blk (.tail _ (.head _))).rowT rfl, ?_⟩
            refine ⟨(hO.blk (.head _)).wr (Nat.le_of_ble_eq_true rfl), ?_⟩
            intro H199 eH199
            replace hO := oz0 (l' := encNode z0) hO eH199 rfl
            refine ⟨z0, (hO.blk (.head _)).rowT rfl, ?_⟩
            obtain rfl := Option.some.inj h
            exact hR _ (dr0 (dr0 (hO)))

          · replace w198 := bnotF w198
            replace h := ifTb w198 h
            refine ⟨z0.r1.col, ((hO.blk (.tail _ (.head _))).rdv rfl), ?_⟩
            refine ⟨z0.r2.col, ((hO.blk (.tail _ (.head _))).rdv rfl), ?_⟩
            refine ⟨fun l Hc => Own Hc [cellE 153 H21.size (encNode (⟨(0 : Int), (0 : Int), (0 : Int), (0 : Int), (0 : Int), (⟨(0 : Int), (0 : Int), false, false⟩ : RefT), (⟨(0 : Int), (0 : Int), false, false⟩ : RefT)⟩ : NodeT)), cellE 153 H.size (encNode z0)] F ∧ (k122_12 z0 z2 (asI (nth l 0)) (asI (nth l 1)) (asI (nth l 2))) = some r_, ?_, ?_⟩
            · refine ⟨z0.r1.row, ((hO.blk (.tail _ (.head _))).rdv rfl), ?_⟩
              refine ⟨z0.r2.row, ((hO.blk (.tail _ (.head _))).rdv rfl), ?_⟩
              exact ⟨hO, h⟩

            · clear hO h
              intro H200 u201 x202 x203 x204 hJ
              obtain ⟨hO, h⟩ := hJ
              replace h : (k122_12 z0 z2 x202 x203 x204) = some r_ := h
              unfold k122_12 at h
              refine ⟨fun l Hc => Own Hc [cellE 153 H21.size (encNode (⟨(0 : Int), (0 : Int), (0 : Int), (0 : Int), (0 : Int), (⟨(0 : Int), (0 : Int), false, false⟩ : RefT), (⟨(0 : Int), (0 : Int), false, false⟩ : RefT)⟩ : NodeT)), cellE 153 H.size (encNode z0)] F ∧ (k122_11 z0 z2 x202 x203 x204 (asI (nth l 0)) (asI (nth l 1))) = some r_, ?_, ?_⟩
              · refine ⟨fun w225 => ?_, fun w226 => ?_⟩
                · replace h := ifTd w225 h
                  exact ⟨hO, h⟩

                · replace h := ifFd w226 h
                  exact ⟨hO, h⟩


              · clear hO h
                intro H205 u206 x207 x208 hJ
                obtain ⟨hO, h⟩ := hJ
                replace h : (k122_11 z0 z2 x202 x203 x204 x207 x208) = some r_ := h
                unfold k122_11 at h
                obtain ⟨r209, e210, h⟩ := bindS h
                refine c150 x207 x208 x204 z2 true r209 e210 _ _ _ (fr0 hO) (fun H211 hO => ?_)
                replace hO := un0 hO
                refine ⟨r209.1, r209.2, rfl, ?_⟩
                refine ⟨fun w212 => ?_, fun w213 => ?_⟩
                · replace h := ifTd w212 h
                  refine c148 _ rfl _ _ _ (fr0 hO) (fun H214 hO => ?_)
                  replace hO := un0 hO
                  refine ⟨s148, rfl, ?_⟩
                  refine ⟨(hO.blk (.head _)).wr (Nat.le_of_ble_eq_true rfl), ?_⟩
                  intro H215 eH215
                  replace hO := oz0 (l' := encNode s148) hO eH215 rfl
                  refine ⟨s148, (hO.blk (.head _)).rowT rfl, ?_⟩
                  obtain rfl := Option.some.inj h
                  exact hR _ (dr0 (dr0 (hO)))

                · replace h := ifFd w213 h
                  refine ⟨fun l Hc => Own Hc [cellE 153 H21.size (encNode (⟨(0 : Int), (0 : Int), (0 : Int), (0 : Int), (0 : Int), (⟨(0 : Int), (0 : Int), false, false⟩ : RefT), (⟨(0 : Int), (0 : Int), false, false⟩ : RefT)⟩ : NodeT)), cellE 153 H.size (encNode z0)] F ∧ (k122_10 z0 (asI (nth l 0)) (asI (nth l 1))) = some r_, ?_, ?_⟩
                  · refine ⟨fun w223 => ?_, fun w224 => ?_⟩
                    · replace h := ifTd w223 h
                      exact ⟨hO, h⟩

                    · replace h := ifFd w224 h
                      exact ⟨hO, h⟩


                  · clear hO h
                    intro H216 u217 x218 x219 hJ
                    obtain ⟨hO, h⟩ := hJ
                    replace h : (k122_10 z0 x218 x219) = some r_ := h
                    unfold k122_10 at h
                    refine ⟨(hO.blk (.tail _ (.head _))).wr (Nat.le_of_ble_eq_true rfl), ?_⟩
                    intro H220 eH220
                    replace hO := os1 (l' := encNode ({ z0 with r1 := { z0.r1 with row := x218 } })) hO eH220 rfl
                    refine ⟨(hO.blk (.tail _ (.head _))).wr (Nat.le_of_ble_eq_true rfl), ?_⟩
                    intro H221 eH221
                    replace hO := os1 (l' := encNode ({ z0 with r1 := { z0.r1 with row := x218 }, r2 := { z0.r2 with row := x219 } })) hO eH221 rfl
                    refine ⟨{ z0 with r1 := { z0.r1 with row := x218 }, r2 := { z0.r2 with row := x219 } }, (hO.blk (.tail _ (.head _))).rowT rfl, ?_⟩
                    refine ⟨(hO.blk (.head _)).wr (Nat.le_of_ble_eq_true rfl), ?_⟩
                    intro H222 eH222
                    replace hO := oz0 (l' := encNode ({ z0 with r1 := { z0.r1 with row := x218 }, r2 := { z0.r2 with row := x219 } })) hO eH222 rfl
                    refine ⟨{ z0 with r1 := { z0.r1 with row := x218 }, r2 := { z0.r2 with row := x219 } }, (hO.blk (.head _)).rowT rfl, ?_⟩
                    obtain rfl := Option.some.inj h
                    exact hR _ (dr0 (dr0 (hO)))








    · replace h := ifFd w156 h
      refine ⟨z0.kind, ((hO.blk (.tail _ (.head _))).rdv rfl), ?_⟩
      refine ⟨fun w227 => ?_, fun w228 => ?_⟩
      · replace w227 := bnotT w227
        replace h := ifFd w227 h
        refine ⟨z0, (hO.blk (.tail _ (.head _))).rowT rfl, ?_⟩
        refine ⟨(hO.blk (.head _)).wr (Nat.le_of_ble_eq_true rfl), ?_⟩
        intro H229 eH229
        replace hO := oz0 (l' := encNode z0) hO eH229 rfl
        refine ⟨z0, (hO.blk (.head _)).rowT rfl, ?_⟩
        obtain rfl := Option.some.inj h
        exact hR _ (dr0 (dr0 (hO)))

      · replace w228 := bnotF w228
        replace h := ifTd w228 h
        refine ⟨z0.r1, (hO.blk (.tail _ (.head _))).rowT rfl, ?_⟩
        refine ⟨z0.r2, (hO.blk (.tail _ (.head _))).rowT rfl, ?_⟩
        obtain ⟨r230, e231, h⟩ := bindS h
        refine c149 n_ z0.r1 z0.r2 r230 e231 _ _ _ (fr0 hO) (fun H232 hO => ?_)
        replace hO := un0 hO
        refine ⟨r230.1, r230.2, rfl, ?_⟩
        refine ⟨fun w233 => ?_, fun w234 => ?_⟩
        · replace w233 := bnotT w233
          replace h := ifFb w233 h
          refine ⟨z0, (hO.blk (.tail _ (.head _))).rowT rfl, ?_⟩
          refine ⟨(hO.blk (.head _)).wr (Nat.le_of_ble_eq_true rfl), ?_⟩
          intro H235 eH235
          replace hO := oz0 (l' := encNode z0) hO eH235 rfl
          refine ⟨z0, (hO.blk (.head _)).rowT rfl, ?_⟩
          obtain rfl := Option.some.inj h
          exact hR _ (dr0 (dr0 (hO)))

        · replace w234 := bnotF w234
          replace h := ifTb w234 h
          refine ⟨z0.r1.col, ((hO.blk (.tail _ (.head _))).rdv rfl), ?_⟩
          refine ⟨z0.r2.col, ((hO.blk (.tail _ (.head _))).rdv rfl), ?_⟩
          refine ⟨fun l Hc => Own Hc [cellE 153 H21.size (encNode (⟨(0 : Int), (0 : Int), (0 : Int), (0 : Int), (0 : Int), (⟨(0 : Int), (0 : Int), false, false⟩ : RefT), (⟨(0 : Int), (0 : Int), false, false⟩ : RefT)⟩ : NodeT)), cellE 153 H.size (encNode z0)] F ∧ (k122_12 z0 z2 (asI (nth l 0)) (asI (nth l 1)) (asI (nth l 2))) = some r_, ?_, ?_⟩
          · refine ⟨z0.r1.row, ((hO.blk (.tail _ (.head _))).rdv rfl), ?_⟩
            refine ⟨z0.r2.row, ((hO.blk (.tail _ (.head _))).rdv rfl), ?_⟩
            exact ⟨hO, h⟩

          · clear hO h
            intro H236 u237 x238 x239 x240 hJ
            obtain ⟨hO, h⟩ := hJ
            replace h : (k122_12 z0 z2 x238 x239 x240) = some r_ := h
            unfold k122_12 at h
            refine ⟨fun l Hc => Own Hc [cellE 153 H21.size (encNode (⟨(0 : Int), (0 : Int), (0 : Int), (0 : Int), (0 : Int), (⟨(0 : Int), (0 : Int), false, false⟩ : RefT), (⟨(0 : Int), (0 : Int), false, false⟩ : RefT)⟩ : NodeT)), cellE 153 H.size (encNode z0)] F ∧ (k122_11 z0 z2 x238 x239 x240 (asI (nth l 0)) (asI (nth l 1))) = some r_, ?_, ?_⟩
            · refine ⟨fun w261 => ?_, fun w262 => ?_⟩
              · replace h := ifTd w261 h
                exact ⟨hO, h⟩

              · replace h := ifFd w262 h
                exact ⟨hO, h⟩


            · clear hO h
              intro H241 u242 x243 x244 hJ
              obtain ⟨hO, h⟩ := hJ
              replace h : (k122_11 z0 z2 x238 x239 x240 x243 x244) = some r_ := h
              unfold k122_11 at h
              obtain ⟨r245, e246, h⟩ := bindS h
              refine c150 x243 x244 x240 z2 true r245 e246 _ _ _ (fr0 hO) (fun H247 hO => ?_)
              replace hO := un0 hO
              refine ⟨r245.1, r245.2, rfl, ?_⟩
              refine ⟨fun w248 => ?_, fun w249 => ?_⟩
              · replace h := ifTd w248 h
                refine c148 _ rfl _ _ _ (fr0 hO) (fun H250 hO => ?_)
                replace hO := un0 hO
                refine ⟨s148, rfl, ?_⟩
                refine ⟨(hO.blk (.head _)).wr (Nat.le_of_ble_eq_true rfl), ?_⟩
                intro H251 eH251
                replace hO := oz0 (l' := encNode s148) hO eH251 rfl
                refine ⟨s148, (hO.blk (.head _)).rowT rfl, ?_⟩
                obtain rfl := Option.some.inj h
                exact hR _ (dr0 (dr0 (hO)))

              · replace h := ifFd w249 h
                refine ⟨fun l Hc => Own Hc [cellE 153 H21.size (encNode (⟨(0 : Int), (0 : Int), (0 : Int), (0 : Int), (0 : Int), (⟨(0 : Int), (0 : Int), false, false⟩ : RefT), (⟨(0 : Int), (0 : Int), false, false⟩ : RefT)⟩ : NodeT)), cellE 153 H.size (encNode z0)] F ∧ (k122_10 z0 (asI (nth l 0)) (asI (nth l 1))) = some r_, ?_, ?_⟩
                · refine ⟨fun w259 => ?_, fun w260 => ?_⟩
                  · replace h := ifTd w259 h
                    exact ⟨hO, h⟩

                  · replace h := ifFd w260 h
                    exact ⟨hO, h⟩


                · clear hO h
                  intro H252 u253 x254 x255 hJ
                  obtain ⟨hO, h⟩ := hJ
                  replace h : (k122_10 z0 x254 x255) = some r_ := h
                  unfold k122_10 at h
                  refine ⟨(hO.blk (.tail _ (.head _))).wr (Nat.le_of_ble_eq_true rfl), ?_⟩
                  intro H256 eH256
                  replace hO := os1 (l' := encNode ({ z0 with r1 := { z0.r1 with row := x254 } })) hO eH256 rfl
                  refine ⟨(hO.blk (.tail _ (.head _))).wr (Nat.le_of_ble_eq_true rfl), ?_⟩
                  intro H257 eH257
                  replace hO := os1 (l' := encNode ({ z0 with r1 := { z0.r1 with row := x254 }, r2 := { z0.r2 with row := x255 } })) hO eH257 rfl
                  refine ⟨{ z0 with r1 := { z0.r1 with row := x254 }, r2 := { z0.r2 with row := x255 } }, (hO.blk (.tail _ (.head _))).rowT rfl, ?_⟩
                  refine ⟨(hO.blk (.head _)).wr (Nat.le_of_ble_eq_true rfl), ?_⟩
                  intro H258 eH258
                  replace hO := oz0 (l' := encNode ({ z0 with r1 := { z0.r1 with row := x254 }, r2 := { z0.r2 with row := x255 } })) hO eH258 rfl
                  refine ⟨{ z0 with r1 := { z0.r1 with row := x254 }, r2 := { z0.r2 with row := x255 } }, (hO.blk (.head _)).rowT rfl, ?_⟩
                  obtain rfl := Option.some.inj h
                  exact hR _ (dr0 (dr0 (hO)))










theorem c103 (n_ : Nat) (b0 : Nat) (t0 : TreeV) (c0 : Nat) (z1 : Int) (z2 : Int) (r_ : TreeV) (h : s103 n_ t0 z1 z2 = some r_) (F : List Ent) (H : Heap) (R : Value → Heap → Prop)
    (hO : Own H [cellE 153 b0 (List.flatMap encNode t0.nodes)] F)
    (hR : ∀ (H' : Heap) (a_0 : Option Addr) (c_0 : Nat) (C_0 : List Ent) (_ : SH 153 encNode r_.nodes a_0 r_.nodes.length C_0), Own H' [cellE 153 b0 (List.flatMap encNode t0.nodes), C_0] F → R (.agg ⟨encTree ⟨a_0, r_.nodes.length, c_0, r_.root, r_.err, r_.pos⟩⟩) H') :
    HCalls Tryz.prog 103 #[Value.agg ⟨encTree ⟨some ⟨b0, 0, none⟩, t0.nodes.length, c0, t0.root, t0.err, t0.pos⟩⟩, I z1, I z2] H R := by
  refine vc103 ⟨some ⟨b0, 0, none⟩, t0.nodes.length, c0, t0.root, t0.err, t0.pos⟩ z1 z2 H R ?_
  unfold s103 at h
  intro H21 eH21
  replace hO := own_new (l := [Value.slice (some ⟨b0, 0, none⟩) t0.nodes.length c0, I t0.root, I t0.err, I t0.pos]) hO eH21 rfl
  intro H22 eH22
  replace hO := own_new (l := [Value.slice none 0 0, I (0 : Int), I (0 : Int), I (0 : Int)]) hO eH22 rfl
  refine ⟨(some ⟨b0, 0, none⟩), t0.nodes.length, c0, ((hO.blk (.tail _ (.head _))).rdv rfl), ?_⟩
  obtain ⟨r23, e24, h⟩ := bindS h
  refine c121 b0 t0.nodes t0.nodes.length c0 r23 e24 _ _ _ (fr1 (pu2 hO)) (fun H25 a26 m27 k28 C29 hs30 hO => ?_)
  replace hO := un2 hO
  obtain rfl := hs30.1
  refine ⟨a26, r23.length, k28, rfl, ?_⟩
  obtain ⟨q31, h⟩ := ckS h
  obtain ⟨b32, ha_, hC_⟩ := hs30.2 q31
  subst ha_ hC_
  refine ⟨fun l Hc => ∃ m : Nat, ∃ a48 : List NodeT, Own Hc [cellE 153 b0 (List.flatMap encNode t0.nodes), cellE 153 b32 (List.flatMap encNode a48), cellE 131 H21.size [Value.slice none 0 0, I (0 : Int), I (0 : Int), I (0 : Int)], cellE 131 H.size [Value.slice (some ⟨b0, 0, none⟩) t0.nodes.length c0, I t0.root, I t0.err, I t0.pos]] F ∧ (l103_0 n_ t0 z1 z2 r23 m (asI (nth l 0)) a48) = some r_, fun l Hc => Classical.epsilon <| lsp fun m => ∃ a48 : List NodeT, Own Hc [cellE 153 b0 (List.flatMap encNode t0.nodes), cellE 153 b32 (List.flatMap encNode a48), cellE 131 H21.size [Value.slice none 0 0, I (0 : Int), I (0 : Int), I (0 : Int)], cellE 131 H.size [Value.slice (some ⟨b0, 0, none⟩) t0.nodes.length c0, I t0.root, I t0.err, I t0.pos]] F ∧ (l103_0 n_ t0 z1 z2 r23 m (asI (nth l 0)) a48) = some r_, ?_, ?_⟩
  · exact ⟨n_, r23, hO, h⟩
  · clear hO h
    intro H49 u50 x51 hJ
    obtain ⟨m66, hm53, hJ⟩ := lst_get hJ
    obtain ⟨a48, hO, h⟩ := hJ
    rcases m66 with _ | k65
    · exact absurd h (by simp [l103_0, asI, asB, asC, asS])
    obtain ⟨rec52, hrec52, h⟩ : ∃ f_, f_ = l103_0 n_ t0 z1 z2 r23 k65 ∧ (l103_0_st n_ t0 z1 z2 r23 f_ x51 a48) = some r_ := ⟨_, rfl, h⟩
    unfold l103_0_st at h
    refine ⟨fun w54 => ?_, fun w55 => ?_⟩
    · replace h := ifTd w54 h
      obtain ⟨x56, g57, h⟩ := getS h
      refine ⟨_, _, rfl, g57.1, g57.2.1, rfl, ?_⟩
      refine ⟨x56, (hO.arr (.tail _ (.head _))).row (i := Int.toNat x51) lenNode g57.2.2 (Nat.zero_add _), ?_⟩
      obtain ⟨r58, e59, h⟩ := bindS h
      refine c122 n_ x56 z1 z2 r58 e59 _ _ _ (fr0 hO) (fun H60 hO => ?_)
      replace hO := un0 hO
      refine ⟨r58, rfl, ?_⟩
      refine ⟨_, _, rfl, g57.1, g57.2.1, rfl, ?_⟩
      refine ⟨((hO.arr (.tail _ (.head _))).wr1 lenNode (i := Int.toNat x51) (j := 0) (getLt g57.2.2) (Nat.le_of_ble_eq_true rfl) (zo0 _)), ?_⟩
      intro H61 eH61
      replace hO := oz1 (l' := List.flatMap encNode (List.set a48 (Int.toNat x51) r58)) hO eH61 (flat_put1 lenNode (i := Int.toNat x51) (x := r58) (getLt g57.2.2) (Nat.zero_add _))
      obtain ⟨q62, h⟩ := ckS h
      refine ⟨_, .inl ⟨q62, rfl⟩, ?_⟩
      subst hrec52
      exact lst_step hm53 ⟨(List.set a48 (Int.toNat x51) r58), hO, h⟩

    · replace h := ifFd w55 h
      refine ⟨t0.root, ((hO.blk (.tail _ (.tail _ (.tail _ (.head _))))).rdv rfl), ?_⟩
      refine ⟨(hO.blk (.tail _ (.tail _ (.head _)))).wr (Nat.le_of_ble_eq_true rfl), ?_⟩
      intro H63 eH63
      replace hO := oz2 (l' := [Value.slice (some ⟨b32, 0, none⟩) r23.length k28, I t0.root, I (0 : Int), I (0 : Int)]) hO eH63 rfl
      refine ⟨(⟨(some ⟨b32, 0, none⟩), r23.length, k28, t0.root, (0 : Int), (0 : Int)⟩ : TreeT), (hO.blk (.tail _ (.tail _ (.head _)))).rowT rfl, ?_⟩
      obtain ⟨q64, h⟩ := ckS h
      rw [q64]
      obtain rfl := Option.some.inj h
      exact hR _ (some ⟨b32, 0, none⟩) k28 _ (shBlk rfl) (dr2 (dr2 (hO)))




theorem c190 (z0 : NodeT) (r_ : Int) (h : s190 z0 = r_) (F : List Ent) (H : Heap) (R : Value → Heap → Prop)
    (hO : Own H [] F)
    (hR : ∀ (H' : Heap) , Own H' [] F → R (I r_) H') :
    HCalls Tryz.prog 190 #[Value.agg ⟨encNode z0⟩] H R := by
  refine vc190 z0 H R ?_
  unfold s190 at h
  intro H21 eH21
  replace hO := own_new (l := encNode z0) hO eH21 rfl
  refine ⟨z0.kind, ((hO.blk (.head _)).rdv rfl), ?_⟩
  refine ⟨fun w22 => ?_, fun w23 => ?_⟩
  · replace h := ifTd w22 h
    subst h
    exact hR _ (dr0 (hO))

  · replace h := ifFd w23 h
    refine ⟨z0.kind, ((hO.blk (.head _)).rdv rfl), ?_⟩
    refine ⟨fun w24 => ?_, fun w25 => ?_⟩
    · replace w24 := bnotT w24
      replace h := ifFd w24 h
      subst h
      exact hR _ (dr0 (hO))

    · replace w25 := bnotF w25
      replace h := ifTd w25 h
      refine ⟨z0.op, ((hO.blk (.head _)).rdv rfl), ?_⟩
      refine ⟨fun w26 => ?_, fun w27 => ?_⟩
      · replace h := ifTd w26 h
        subst h
        exact hR _ (dr0 (hO))

      · replace h := ifFd w27 h
        refine ⟨z0.op, ((hO.blk (.head _)).rdv rfl), ?_⟩
        refine ⟨fun w28 => ?_, fun w29 => ?_⟩
        · replace h := ifTd w28 h
          subst h
          exact hR _ (dr0 (hO))

        · replace h := ifFd w29 h
          subst h
          exact hR _ (dr0 (hO))






theorem c191 (n_ : Nat) (z0 : Int) (r_ : List UInt8) (h : s191 n_ z0 = some r_) (F : List Ent) (H : Heap) (R : Value → Heap → Prop)
    (hO : Own H [] F)
    (hR : ∀ (H' : Heap) , Own H' [] F → R (str r_) H') :
    HCalls Tryz.prog 191 #[I z0] H R := by
  refine vc191 z0 H R ?_
  unfold s191 at h
  refine ⟨fun w21 => ?_, fun w22 => ?_⟩
  · replace h := ifTd w21 h
    obtain rfl := Option.some.inj h
    exact hR _ hO

  · replace h := ifFd w22 h
    refine ⟨fun l Hc => Own Hc [] F ∧ (k191_3 n_ z0 (asI (nth l 0))) = some r_, ?_, ?_⟩
    · refine ⟨fun w85 => ?_, fun w86 => ?_⟩
      · replace h := ifTd w85 h
        obtain ⟨q87, h⟩ := ckS h
        refine ⟨q87, ?_⟩
        exact ⟨hO, h⟩

      · replace h := ifFd w86 h
        exact ⟨hO, h⟩


    · clear hO h
      intro H23 u24 x25 hJ
      obtain ⟨hO, h⟩ := hJ
      replace h : (k191_3 n_ z0 x25) = some r_ := h
      unfold k191_3 at h
      intro H26 eH26
      replace hO := own_new (l := List.flatMap encC (List.replicate 24 (0 : Int))) hO eH26 rfl
      refine ⟨fun l Hc => ∃ m : Nat, ∃ a42 : List Int, Own Hc [cellE 226 H23.size (List.flatMap encC a42)] F ∧ (l191_2 n_ z0 m (asI (nth l 0)) (asI (nth l 1)) a42) = some r_, fun l Hc => Classical.epsilon <| lsp fun m => ∃ a42 : List Int, Own Hc [cellE 226 H23.size (List.flatMap encC a42)] F ∧ (l191_2 n_ z0 m (asI (nth l 0)) (asI (nth l 1)) a42) = some r_, ?_, ?_⟩
      · exact ⟨n_, (List.replicate 24 (0 : Int)), hO, h⟩
      · clear hO h
        intro H43 u44 x45 x46 hJ
        obtain ⟨m84, hm48, hJ⟩ := lst_get hJ
        obtain ⟨a42, hO, h⟩ := hJ
        rcases m84 with _ | k83
        · exact absurd h (by simp [l191_2, asI, asB, asC, asS])
        obtain ⟨rec47, hrec47, h⟩ : ∃ f_, f_ = l191_2 n_ z0 k83 ∧ (l191_2_st n_ z0 f_ x45 x46 a42) = some r_ := ⟨_, rfl, h⟩
        unfold l191_2_st at h
        refine ⟨fun w49 => ?_, fun w50 => ?_⟩
        · replace h := ifTd w49 h
          obtain ⟨q51, h⟩ := ckS h
          refine ⟨q51, ?_⟩
          refine ⟨(by decide), ?_⟩
          obtain ⟨q52, h⟩ := ckS h
          refine ⟨_, .inl ⟨q52, rfl⟩, ?_⟩
          obtain ⟨q53, h⟩ := ckS h
          refine ⟨q53, ?_⟩
          obtain ⟨x54, g55, h⟩ := getS h
          refine ⟨g55.1, g55.2.1, rfl, ?_⟩
          refine ⟨((hO.arr (.head _)).wr1 lenC (i := Int.toNat (x46 - (1 : Int))) (j := 0) (getLt g55.2.2) (Nat.le_of_ble_eq_true rfl) (zo0 _)), ?_⟩
          intro H56 eH56
          replace hO := os0 (l' := List.flatMap encC (List.set a42 (Int.toNat (x46 - (1 : Int))) ((48 : Int) + (Int.tmod x45 (10 : Int))))) hO eH56 (flat_set1 lenC (i := Int.toNat (x46 - (1 : Int))) (j := 0) g55.2.2 (by decide) (zo0 _) rfl)
          obtain ⟨q57, h⟩ := ckS h
          refine ⟨(by decide), q57, ?_⟩
          subst hrec47
          exact lst_step hm48 ⟨(List.set a42 (Int.toNat (x46 - (1 : Int))) ((48 : Int) + (Int.tmod x45 (10 : Int)))), hO, h⟩

        · replace h := ifFd w50 h
          refine ⟨fun l Hc => ∃ a70 : List Int, Own Hc [cellE 226 H23.size (List.flatMap encC a70)] F ∧ (k191_1 (asI (nth l 0)) a70) = some r_, ?_, ?_⟩
          · refine ⟨fun w77 => ?_, fun w78 => ?_⟩
            · replace h := ifTd w77 h
              obtain ⟨q79, h⟩ := ckS h
              refine ⟨q79, ?_⟩
              obtain ⟨x80, g81, h⟩ := getS h
              refine ⟨g81.1, g81.2.1, rfl, ?_⟩
              refine ⟨((hO.arr (.head _)).wr1 lenC (i := Int.toNat (x46 - (1 : Int))) (j := 0) (getLt g81.2.2) (Nat.le_of_ble_eq_true rfl) (zo0 _)), ?_⟩
              intro H82 eH82
              replace hO := os0 (l' := List.flatMap encC (List.set a42 (Int.toNat (x46 - (1 : Int))) (45 : Int))) hO eH82 (flat_set1 lenC (i := Int.toNat (x46 - (1 : Int))) (j := 0) g81.2.2 (by decide) (zo0 _) rfl)
              exact ⟨(List.set a42 (Int.toNat (x46 - (1 : Int))) (45 : Int)), hO, h⟩

            · replace h := ifFd w78 h
              exact ⟨a42, hO, h⟩


          · clear hO h
            intro H71 u72 x73 hJ
            obtain ⟨a70, hO, h⟩ := hJ
            replace h : (k191_1 x73 a70) = some r_ := h
            unfold k191_1 at h
            obtain ⟨q74, h⟩ := ckS h
            refine ⟨q74.1, q74.2, ?_⟩
            obtain ⟨s75, g76, h⟩ := bindS h
            refine ⟨rfl, _, _, rfl, s75, toS_len g76, toS_row g76 (hO.arr (.head _)) (by rw [Nat.zero_add, Nat.mul_one]), ?_⟩
            obtain rfl := Option.some.inj h
            exact hR _ (dr0 (hO))







theorem c192 (n_ : Nat) (z0 : RefT) (r_ : List UInt8) (h : s192 n_ z0 = some r_) (F : List Ent) (H : Heap) (R : Value → Heap → Prop)
    (hO : Own H [] F)
    (hR : ∀ (H' : Heap) , Own H' [] F → R (str r_) H') :
    HCalls Tryz.prog 192 #[Value.agg ⟨encRef z0⟩] H R := by
  refine vc192 z0 H R ?_
  unfold s192 at h
  intro H21 eH21
  replace hO := own_new (l := encRef z0) hO eH21 rfl
  refine ⟨fun l Hc => Own Hc [cellE 151 H.size (encRef z0)] F ∧ (k192_1 n_ z0 (asS (nth l 0))) = some r_, ?_, ?_⟩
  · refine ⟨z0.ac, ((hO.blk (.head _)).rdv rfl), ?_⟩
    refine ⟨fun w40 => ?_, fun w41 => ?_⟩
    · replace h := ifTb w40 h
      exact ⟨hO, h⟩

    · replace h := ifFb w41 h
      exact ⟨hO, h⟩


  · clear hO h
    intro H22 u23 x24 hJ
    obtain ⟨hO, h⟩ := hJ
    replace h : (k192_1 n_ z0 x24) = some r_ := h
    unfold k192_1 at h
    refine ⟨z0.col, ((hO.blk (.head _)).rdv rfl), ?_⟩
    obtain ⟨q25, h⟩ := ckS h
    refine ⟨_, .inl ⟨q25, rfl⟩, ?_⟩
    obtain ⟨q26, h⟩ := ckS h
    refine ⟨q26, ?_⟩
    intro H27 eH27
    replace hO := own_new (l := [Value.int .u8 ((65 : Int) + z0.col)]) hO eH27 rfl
    refine ⟨rfl, _, _, rfl, ([UInt8.ofNat (Int.toNat ((65 : Int) + z0.col))] : List UInt8), rfl, (hO.blk (.head _)).rowT (by simp only [List.map_cons, List.map_nil, u8v q26]; rfl), ?_⟩
    obtain ⟨q28, h⟩ := ckS h
    refine ⟨q28, ?_⟩
    refine ⟨fun l Hc => Own Hc [cellE 151 H.size (encRef z0)] F ∧ (k192_0 n_ z0 (asS (nth l 0))) = some r_, ?_, ?_⟩
    · refine ⟨z0.ar, ((hO.blk (.tail _ (.head _))).rdv rfl), ?_⟩
      refine ⟨fun w37 => ?_, fun w38 => ?_⟩
      · replace h := ifTb w37 h
        obtain ⟨q39, h⟩ := ckS h
        refine ⟨q39, ?_⟩
        replace hO := dr1 (pu1 hO)
        exact ⟨hO, h⟩

      · replace h := ifFb w38 h
        replace hO := dr1 (pu1 hO)
        exact ⟨hO, h⟩


    · clear hO h
      intro H29 u30 x31 hJ
      obtain ⟨hO, h⟩ := hJ
      replace h : (k192_0 n_ z0 x31) = some r_ := h
      unfold k192_0 at h
      refine ⟨z0.row, ((hO.blk (.head _)).rdv rfl), ?_⟩
      obtain ⟨q32, h⟩ := ckS h
      refine ⟨_, .inl ⟨q32, rfl⟩, ?_⟩
      obtain ⟨r33, e34, h⟩ := bindS h
      refine c191 n_ (z0.row + (1 : Int)) r33 e34 _ _ _ (fr0 hO) (fun H35 hO => ?_)
      replace hO := un0 hO
      refine ⟨r33, rfl, ?_⟩
      obtain ⟨q36, h⟩ := ckS h
      refine ⟨q36, ?_⟩
      obtain rfl := Option.some.inj h
      exact hR _ (dr0 (hO))




theorem c193 (z0 : Int) (r_ : List UInt8) (h : s193 z0 = r_) (F : List Ent) (H : Heap) (R : Value → Heap → Prop)
    (hO : Own H [] F)
    (hR : ∀ (H' : Heap) , Own H' [] F → R (str r_) H') :
    HCalls Tryz.prog 193 #[I z0] H R := by
  refine vc193 z0 H R ?_
  unfold s193 at h
  refine ⟨fun w21 => ?_, fun w22 => ?_⟩
  · replace h := ifTd w21 h
    subst h
    exact hR _ hO

  · replace h := ifFd w22 h
    refine ⟨fun w23 => ?_, fun w24 => ?_⟩
    · replace h := ifTd w23 h
      subst h
      exact hR _ hO

    · replace h := ifFd w24 h
      refine ⟨fun w25 => ?_, fun w26 => ?_⟩
      · replace h := ifTd w25 h
        subst h
        exact hR _ hO

      · replace h := ifFd w26 h
        refine ⟨fun w27 => ?_, fun w28 => ?_⟩
        · replace h := ifTd w27 h
          subst h
          exact hR _ hO

        · replace h := ifFd w28 h
          refine ⟨fun w29 => ?_, fun w30 => ?_⟩
          · replace h := ifTd w29 h
            subst h
            exact hR _ hO

          · replace h := ifFd w30 h
            refine ⟨fun w31 => ?_, fun w32 => ?_⟩
            · replace h := ifTd w31 h
              subst h
              exact hR _ hO

            · replace h := ifFd w32 h
              refine ⟨fun w33 => ?_, fun w34 => ?_⟩
              · replace h := ifTd w33 h
                subst h
                exact hR _ hO

              · replace h := ifFd w34 h
                refine ⟨fun w35 => ?_, fun w36 => ?_⟩
                · replace h := ifTd w35 h
                  subst h
                  exact hR _ hO

                · replace h := ifFd w36 h
                  refine ⟨fun w37 => ?_, fun w38 => ?_⟩
                  · replace h := ifTd w37 h
                    subst h
                    exact hR _ hO

                  · replace h := ifFd w38 h
                    subst h
                    exact hR _ hO











theorem c151_b (n_ : Nat) (rec_151 : (List NodeT) → Nat → Int → Int → Option (List UInt8)) (rec_194 : (List NodeT) → Nat → Int → Option (List UInt8)) (ih_151 : K151 rec_151) (ih_194 : K194 rec_194) (b0 : Nat) (a0 : List NodeT) (m0 c0 : Nat) (z1 : Int) (z2 : Int) (r_ : List UInt8) (h : s151_b n_ rec_151 rec_194 a0 m0 z1 z2 = some r_) (F : List Ent) (H : Heap) (R : Value → Heap → Prop)
    (hO : Own H [cellE 153 b0 (List.flatMap encNode a0)] F)
    (hR : ∀ (H' : Heap) , Own H' [cellE 153 b0 (List.flatMap encNode a0)] F → R (str r_) H') :
    HCalls Tryz.prog 151 #[Value.slice (some ⟨b0, 0, none⟩) m0 c0, I z1, I z2] H R := by
  refine vc151 (some ⟨b0, 0, none⟩) m0 c0 z1 z2 H R ?_
  unfold s151_b at h
  obtain ⟨x21, g22, h⟩ := getS h
  refine ⟨_, _, rfl, g22.1, g22.2.1, rfl, ?_⟩
  refine ⟨x21, (hO.arr (.head _)).row (i := Int.toNat z1) lenNode g22.2.2 (Nat.zero_add _), ?_⟩
  intro H23 eH23
  replace hO := own_new (l := encNode (⟨(0 : Int), (0 : Int), (0 : Int), (0 : Int), (0 : Int), (⟨(0 : Int), (0 : Int), false, false⟩ : RefT), (⟨(0 : Int), (0 : Int), false, false⟩ : RefT)⟩ : NodeT)) hO eH23 rfl
  refine ⟨(hO.blk (.head _)).wr (Nat.le_of_ble_eq_true rfl), ?_⟩
  intro H24 eH24
  replace hO := oz0 (l' := encNode x21) hO eH24 rfl
  refine ⟨x21, (hO.blk (.head _)).rowT rfl, ?_⟩
  refine c190 x21 _ rfl _ _ _ (fr0 hO) (fun H25 hO => ?_)
  replace hO := un0 hO
  refine ⟨(s190 x21), rfl, ?_⟩
  refine ⟨fun l Hc => Own Hc [cellE 153 b0 (List.flatMap encNode a0)] F ∧ (k151_0 z2 x21 (asS (nth l 0))) = some r_, ?_, ?_⟩
  · refine ⟨x21.kind, ((hO.blk (.head _)).rdv rfl), ?_⟩
    refine ⟨fun w33 => ?_, fun w34 => ?_⟩
    · replace h := ifTd w33 h
      refine ⟨x21.n, ((hO.blk (.head _)).rdv rfl), ?_⟩
      obtain ⟨r35, e36, h⟩ := bindS h
      refine c191 n_ x21.n r35 e36 _ _ _ (fr0 hO) (fun H37 hO => ?_)
      replace hO := un0 hO
      refine ⟨r35, rfl, ?_⟩
      replace hO := dr1 (pu1 hO)
      exact ⟨hO, h⟩

    · replace h := ifFd w34 h
      refine ⟨fun w38 => ?_, fun w39 => ?_⟩
      · replace h := ifTd w38 h
        refine ⟨x21.n, ((hO.blk (.head _)).rdv rfl), ?_⟩
        refine ⟨fun w40 => ?_, fun w41 => ?_⟩
        · replace h := ifTd w40 h
          replace hO := dr1 (pu1 hO)
          exact ⟨hO, h⟩

        · replace h := ifFd w41 h
          replace hO := dr1 (pu1 hO)
          exact ⟨hO, h⟩


      · replace h := ifFd w39 h
        refine ⟨fun w42 => ?_, fun w43 => ?_⟩
        · replace h := ifTd w42 h
          refine ⟨x21.r1, (hO.blk (.head _)).rowT rfl, ?_⟩
          obtain ⟨r44, e45, h⟩ := bindS h
          refine c192 n_ x21.r1 r44 e45 _ _ _ (fr0 hO) (fun H46 hO => ?_)
          replace hO := un0 hO
          refine ⟨r44, rfl, ?_⟩
          replace hO := dr1 (pu1 hO)
          exact ⟨hO, h⟩

        · replace h := ifFd w43 h
          refine ⟨fun w47 => ?_, fun w48 => ?_⟩
          · replace h := ifTd w47 h
            refine ⟨x21.r1, (hO.blk (.head _)).rowT rfl, ?_⟩
            obtain ⟨r49, e50, h⟩ := bindS h
            refine c192 n_ x21.r1 r49 e50 _ _ _ (fr0 hO) (fun H51 hO => ?_)
            replace hO := un0 hO
            refine ⟨r49, rfl, ?_⟩
            refine ⟨x21.r2, (hO.blk (.head _)).rowT rfl, ?_⟩
            obtain ⟨r52, e53, h⟩ := bindS h
            refine c192 n_ x21.r2 r52 e53 _ _ _ (fr0 hO) (fun H54 hO => ?_)
            replace hO := un0 hO
            refine ⟨r52, rfl, ?_⟩
            obtain ⟨q55, h⟩ := ckS h
            refine ⟨q55, ?_⟩
            obtain ⟨q56, h⟩ := ckS h
            refine ⟨q56, ?_⟩
            replace hO := dr1 (pu1 hO)
            exact ⟨hO, h⟩

          · replace h := ifFd w48 h
            refine ⟨fun w57 => ?_, fun w58 => ?_⟩
            · replace h := ifTd w57 h
              replace hO := dr1 (pu1 hO)
              exact ⟨hO, h⟩

            · replace h := ifFd w58 h
              refine ⟨fun w59 => ?_, fun w60 => ?_⟩
              · replace h := ifTd w59 h
                refine ⟨x21.a, ((hO.blk (.head _)).rdv rfl), ?_⟩
                obtain ⟨r61, e62, h⟩ := bindS h
                refine ih_151 b0 a0 m0 c0 x21.a (4 : Int) r61 e62 _ _ _ (fr1 (pu1 hO)) (fun H63 hO => ?_)
                replace hO := un1 hO
                refine ⟨r61, rfl, ?_⟩
                obtain ⟨q64, h⟩ := ckS h
                refine ⟨q64, ?_⟩
                replace hO := dr1 (hO)
                exact ⟨hO, h⟩

              · replace h := ifFd w60 h
                refine ⟨fun w65 => ?_, fun w66 => ?_⟩
                · replace h := ifTd w65 h
                  refine ⟨fun l Hc => Own Hc [cellE 153 H.size (encNode x21), cellE 153 b0 (List.flatMap encNode a0)] F ∧ (k151_1 rec_151 a0 m0 z2 x21 (asI (nth l 0))) = some r_, ?_, ?_⟩
                  · refine ⟨fun w80 => ?_, fun w81 => ?_⟩
                    · replace h := ifTd w80 h
                      exact ⟨hO, h⟩

                    · replace h := ifFd w81 h
                      exact ⟨hO, h⟩


                  · clear hO h
                    intro H67 u68 x69 hJ
                    obtain ⟨hO, h⟩ := hJ
                    replace h : (k151_1 rec_151 a0 m0 z2 x21 x69) = some r_ := h
                    unfold k151_1 at h
                    refine ⟨x21.a, ((hO.blk (.head _)).rdv rfl), ?_⟩
                    obtain ⟨r70, e71, h⟩ := bindS h
                    refine ih_151 b0 a0 m0 c0 x21.a x69 r70 e71 _ _ _ (fr1 (pu1 hO)) (fun H72 hO => ?_)
                    replace hO := un1 hO
                    refine ⟨r70, rfl, ?_⟩
                    refine ⟨x21.b, ((hO.blk (.tail _ (.head _))).rdv rfl), ?_⟩
                    obtain ⟨q73, h⟩ := ckS h
                    refine ⟨_, .inl ⟨q73, rfl⟩, ?_⟩
                    obtain ⟨r74, e75, h⟩ := bindS h
                    refine ih_151 b0 a0 m0 c0 x21.b ((s190 x21) + (1 : Int)) r74 e75 _ _ _ (fr1 hO) (fun H76 hO => ?_)
                    replace hO := un1 hO
                    refine ⟨r74, rfl, ?_⟩
                    refine ⟨x21.op, ((hO.blk (.tail _ (.head _))).rdv rfl), ?_⟩
                    refine c193 x21.op _ rfl _ _ _ (fr0 hO) (fun H77 hO => ?_)
                    replace hO := un0 hO
                    refine ⟨(s193 x21.op), rfl, ?_⟩
                    obtain ⟨q78, h⟩ := ckS h
                    refine ⟨q78, ?_⟩
                    obtain ⟨q79, h⟩ := ckS h
                    refine ⟨q79, ?_⟩
                    replace hO := dr1 (hO)
                    exact ⟨hO, h⟩


                · replace h := ifFd w66 h
                  refine ⟨fun w82 => ?_, fun w83 => ?_⟩
                  · replace h := ifTd w82 h
                    refine ⟨x21.a, ((hO.blk (.head _)).rdv rfl), ?_⟩
                    obtain ⟨r84, e85, h⟩ := bindS h
                    refine ih_194 b0 a0 m0 c0 x21.a r84 e85 _ _ _ (fr1 (pu1 hO)) (fun H86 hO => ?_)
                    replace hO := un1 hO
                    refine ⟨r84, rfl, ?_⟩
                    refine ⟨x21.op, ((hO.blk (.tail _ (.head _))).rdv rfl), ?_⟩
                    refine c195 x21.op _ rfl _ _ _ (fr0 hO) (fun H87 hO => ?_)
                    replace hO := un0 hO
                    refine ⟨(s195 x21.op), rfl, ?_⟩
                    obtain ⟨q88, h⟩ := ckS h
                    refine ⟨q88, ?_⟩
                    obtain ⟨q89, h⟩ := ckS h
                    refine ⟨q89, ?_⟩
                    obtain ⟨q90, h⟩ := ckS h
                    refine ⟨q90, ?_⟩
                    replace hO := dr1 (hO)
                    exact ⟨hO, h⟩

                  · replace h := ifFd w83 h
                    replace hO := dr1 (pu1 hO)
                    exact ⟨hO, h⟩









  · clear hO h
    intro H26 u27 x28 hJ
    obtain ⟨hO, h⟩ := hJ
    replace h : (k151_0 z2 x21 x28) = some r_ := h
    unfold k151_0 at h
    refine ⟨fun w29 => ?_, fun w30 => ?_⟩
    · replace h := ifTd w29 h
      obtain ⟨q31, h⟩ := ckS h
      refine ⟨q31, ?_⟩
      obtain ⟨q32, h⟩ := ckS h
      refine ⟨q32, ?_⟩
      obtain rfl := Option.some.inj h
      exact hR _ hO

    · replace h := ifFd w30 h
      obtain rfl := Option.some.inj h
      exact hR _ hO




theorem c194_b (n_ : Nat) (rec_151 : (List NodeT) → Nat → Int → Int → Option (List UInt8)) (rec_194 : (List NodeT) → Nat → Int → Option (List UInt8)) (ih_151 : K151 rec_151) (ih_194 : K194 rec_194) (b0 : Nat) (a0 : List NodeT) (m0 c0 : Nat) (z1 : Int) (r_ : List UInt8) (h : s194_b n_ rec_151 rec_194 a0 m0 z1 = some r_) (F : List Ent) (H : Heap) (R : Value → Heap → Prop)
    (hO : Own H [cellE 153 b0 (List.flatMap encNode a0)] F)
    (hR : ∀ (H' : Heap) , Own H' [cellE 153 b0 (List.flatMap encNode a0)] F → R (str r_) H') :
    HCalls Tryz.prog 194 #[Value.slice (some ⟨b0, 0, none⟩) m0 c0, I z1] H R := by
  refine vc194 (some ⟨b0, 0, none⟩) m0 c0 z1 H R ?_
  unfold s194_b at h
  obtain ⟨x21, g22, h⟩ := getS h
  refine ⟨_, _, rfl, g22.1, g22.2.1, rfl, ?_⟩
  refine ⟨x21.a, ((hO.arr (.head _)).rd (i := Int.toNat z1) (j := 2) lenNode g22.2.2 (by decide) (zo _ 2) rfl), ?_⟩
  obtain ⟨r23, e24, h⟩ := bindS h
  refine ih_151 b0 a0 m0 c0 x21.a (1 : Int) r23 e24 _ _ _ (fr1 hO) (fun H25 hO => ?_)
  replace hO := un1 hO
  refine ⟨r23, rfl, ?_⟩
  refine ⟨_, _, rfl, g22.1, g22.2.1, rfl, ?_⟩
  refine ⟨x21.b, ((hO.arr (.head _)).rd (i := Int.toNat z1) (j := 3) lenNode g22.2.2 (by decide) (zo _ 3) rfl), ?_⟩
  refine ⟨fun w26 => ?_, fun w27 => ?_⟩
  · replace h := ifTd w26 h
    obtain rfl := Option.some.inj h
    exact hR _ hO

  · replace h := ifFd w27 h
    refine ⟨_, _, rfl, g22.1, g22.2.1, rfl, ?_⟩
    refine ⟨x21.b, ((hO.arr (.head _)).rd (i := Int.toNat z1) (j := 3) lenNode g22.2.2 (by decide) (zo _ 3) rfl), ?_⟩
    obtain ⟨r28, e29, h⟩ := bindS h
    refine ih_194 b0 a0 m0 c0 x21.b r28 e29 _ _ _ (fr1 hO) (fun H30 hO => ?_)
    replace hO := un1 hO
    refine ⟨r28, rfl, ?_⟩
    obtain ⟨q31, h⟩ := ckS h
    refine ⟨q31, ?_⟩
    obtain ⟨q32, h⟩ := ckS h
    refine ⟨q32, ?_⟩
    obtain rfl := Option.some.inj h
    exact hR _ hO


theorem crc151 (n_ : Nat) : ∀ m, K151 ((rc151 n_ m).1) ∧ K194 ((rc151 n_ m).2) := by
  intro m
  induction m with
  | zero => exact ⟨by unfold K151; intros; rename_i h F H R hO hR; exact absurd h (by simp [rc151]), by unfold K194; intros; rename_i h F H R hO hR; exact absurd h (by simp [rc151])⟩
  | succ m ih =>
    obtain ⟨ih_151, ih_194⟩ := ih
    exact ⟨c151_b n_ _ _ ih_151 ih_194, c194_b n_ _ _ ih_151 ih_194⟩
theorem c151 (n_ : Nat) : K151 (s151 n_) := (crc151 n_ n_).1
theorem c194 (n_ : Nat) : K194 (s194 n_) := (crc151 n_ n_).2

theorem c123 (n_ : Nat) (z0 : Nat) (L0 : FML) (S0 : FMS) (b1 : Nat) (t1 : TreeV) (c1 : Nat) (r_ : FMS × List UInt8 × Int) (h : s123 n_ S0 t1 = some r_) (F : List Ent) (H : Heap) (R : Value → Heap → Prop)
    (hO : Own H [oFM z0 L0 S0, cellE 153 b1 (List.flatMap encNode t1.nodes)] F)
    (hR : ∀ (H' : Heap) , Own H' [oFM z0 L0 r_.1, cellE 153 b1 (List.flatMap encNode t1.nodes)] F → R (.tuple #[str r_.2.1, I r_.2.2]) H') :
    HCalls Tryz.prog 123 #[Value.pointer (some ⟨z0, 0, none⟩), Value.agg ⟨encTree ⟨some ⟨b1, 0, none⟩, t1.nodes.length, c1, t1.root, t1.err, t1.pos⟩⟩] H R := by
  refine vc123 z0 ⟨some ⟨b1, 0, none⟩, t1.nodes.length, c1, t1.root, t1.err, t1.pos⟩ H R ?_
  unfold s123 at h
  intro H21 eH21
  replace hO := own_new (l := [Value.slice (some ⟨b1, 0, none⟩) t1.nodes.length c1, I t1.root, I t1.err, I t1.pos]) hO eH21 rfl
  replace hO := open_FM (pu1 hO)
  refine ⟨S0.prints, ((hO.blk (.head _)).rdv rfl), ?_⟩
  refine ⟨_, .inr rfl, ?_⟩
  refine ⟨(hO.blk (.head _)).wr (Nat.le_of_ble_eq_true rfl), ?_⟩
  intro H22 eH22
  replace hO := os0 (l' := [I S0.parses, I (IntKind.wrap .i64 (S0.prints + (1 : Int))), str S0.last]) hO eH22 rfl
  refine ⟨(some ⟨b1, 0, none⟩), t1.nodes.length, c1, ((hO.blk (.tail _ (.head _))).rdv rfl), ?_⟩
  refine ⟨fun w23 => ?_, fun w24 => ?_⟩
  · replace h := ifTd w23 h
    replace hO := close_FM L0 ({ S0 with prints := (IntKind.wrap .i64 (S0.prints + (1 : Int))) }) (hO)
    obtain rfl := Option.some.inj h
    exact hR _ (dr2 (pu1 (pu2 hO)))

  · replace h := ifFd w24 h
    refine ⟨(⟨(some ⟨b1, 0, none⟩), t1.nodes.length, c1, t1.root, t1.err, t1.pos⟩ : TreeT), (hO.blk (.tail _ (.head _))).rowT rfl, ?_⟩
    obtain ⟨r25, e26, h⟩ := bindS h
    refine c142 n_ b1 t1 c1 r25 e26 _ _ _ (fr1 (pu2 hO)) (fun H27 hO => ?_)
    replace hO := un1 hO
    refine ⟨r25, rfl, ?_⟩
    refine ⟨fun w28 => ?_, fun w29 => ?_⟩
    · replace w28 := bnotT w28
      replace h := ifFb w28 h
      replace hO := close_FM L0 ({ S0 with prints := (IntKind.wrap .i64 (S0.prints + (1 : Int))) }) (pu1 hO)
      obtain rfl := Option.some.inj h
      exact hR _ (dr2 (hO))

    · replace w29 := bnotF w29
      replace h := ifTb w29 h
      refine ⟨(some ⟨b1, 0, none⟩), t1.nodes.length, c1, ((hO.blk (.tail _ (.tail _ (.head _)))).rdv rfl), ?_⟩
      refine ⟨t1.root, ((hO.blk (.tail _ (.tail _ (.head _)))).rdv rfl), ?_⟩
      obtain ⟨r30, e31, h⟩ := bindS h
      refine c151 n_ b1 t1.nodes t1.nodes.length c1 t1.root (1 : Int) r30 e31 _ _ _ (fr1 hO) (fun H32 hO => ?_)
      replace hO := un1 hO
      refine ⟨r30, rfl, ?_⟩
      replace hO := close_FM L0 ({ S0 with prints := (IntKind.wrap .i64 (S0.prints + (1 : Int))) }) (pu1 hO)
      obtain rfl := Option.some.inj h
      exact hR _ (dr2 (hO))




theorem c104 (n_ : Nat) (z0 : Nat) (L0 : EML) (S0 : EMS) (b1 : Nat) (t1 : TreeV) (c1 : Nat) (r_ : EMS × List UInt8) (h : s104 n_ S0 t1 = some r_) (F : List Ent) (H : Heap) (R : Value → Heap → Prop)
    (hO : Own H [oEM z0 L0 S0, cellE 153 b1 (List.flatMap encNode t1.nodes)] F)
    (hR : ∀ (H' : Heap) (L0' : EML), Own H' [oEM z0 (L0') r_.1, cellE 153 b1 (List.flatMap encNode t1.nodes)] F → R (str r_.2) H') :
    HCalls Tryz.prog 104 #[Value.pointer (some ⟨z0, 0, none⟩), Value.agg ⟨encTree ⟨some ⟨b1, 0, none⟩, t1.nodes.length, c1, t1.root, t1.err, t1.pos⟩⟩] H R := by
  refine vc104 z0 ⟨some ⟨b1, 0, none⟩, t1.nodes.length, c1, t1.root, t1.err, t1.pos⟩ H R ?_
  unfold s104 at h
  intro H21 eH21
  replace hO := own_new (l := [Value.slice (some ⟨b1, 0, none⟩) t1.nodes.length c1, I t1.root, I t1.err, I t1.pos]) hO eH21 rfl
  replace hO := open_EM (pu1 hO)
  refine ⟨L0.f, ((hO.blk (.head _)).rdv rfl), ?_⟩
  refine ⟨(⟨(some ⟨b1, 0, none⟩), t1.nodes.length, c1, t1.root, t1.err, t1.pos⟩ : TreeT), (hO.blk (.tail _ (.tail _ (.tail _ (.head _))))).rowT rfl, ?_⟩
  obtain ⟨r22, e23, h⟩ := bindS h
  refine c123 n_ L0.f L0.fl S0.f b1 t1 c1 r22 e23 _ _ _ (fr2 (pu2 (pu4 hO))) (fun H24 hO => ?_)
  replace hO := un2 hO
  refine ⟨r22.2.1, r22.2.2, rfl, ?_⟩
  obtain ⟨q25, h⟩ := ckS h
  refine ⟨q25, ?_⟩
  replace hO := close_EM L0 ({ S0 with f := r22.1 }) (pu3 (pu1 (pu3 hO)))
  obtain rfl := Option.some.inj h
  exact hR _ L0 (dr2 (hO))


theorem c77 (n_ : Nat) (z0 : Nat) (L0 : EML) (S0 : EMS) (z1 : Int) (z2 : Int) (r_ : EMS × Int) (h : s77 n_ S0 z1 z2 = some r_) (F : List Ent) (H : Heap) (R : Value → Heap → Prop)
    (hO : Own H [oEM z0 L0 S0] F)
    (hR : ∀ (H' : Heap) (L0' : EML), Own H' [oEM z0 (L0') r_.1] F → R (I r_.2) H') :
    HCalls Tryz.prog 77 #[Value.pointer (some ⟨z0, 0, none⟩), I z1, I z2] H R := by
  refine vc77 z0 z1 z2 H R ?_
  unfold s77 at h
  refine c94 z1 z2 _ rfl _ _ _ (fr0 hO) (fun H21 hO => ?_)
  replace hO := un0 hO
  refine ⟨(s94 z1 z2), rfl, ?_⟩
  refine ⟨fun w22 => ?_, fun w23 => ?_⟩
  · replace w22 := bnotT w22
    replace h := ifFb w22 h
    obtain rfl := Option.some.inj h
    exact hR _ L0 hO

  · replace w23 := bnotF w23
    replace h := ifTb w23 h
    refine ⟨rfl, (by decide), (by decide), rfl, ?_⟩
    intro H24 eH24
    replace hO := own_new (l := List.flatMap encS (List.replicate 24 ([] : List UInt8))) hO eH24 (z9 _)
    refine ⟨fun l Hc => ∃ m : Nat, ∃ a189 : List (List UInt8), ∃ S190 : EMS, ∃ L191 : EML, Own Hc [cellE 9 H21.size (List.flatMap encS a189), oEM z0 L191 S190] F ∧ (l77_7 n_ z1 z2 m (asI (nth l 0)) a189 S190) = some r_, fun l Hc => Classical.epsilon <| lsp fun m => ∃ a189 : List (List UInt8), ∃ S190 : EMS, ∃ L191 : EML, Own Hc [cellE 9 H21.size (List.flatMap encS a189), oEM z0 L191 S190] F ∧ (l77_7 n_ z1 z2 m (asI (nth l 0)) a189 S190) = some r_, ?_, ?_⟩
    · exact ⟨n_, (List.replicate 24 ([] : List UInt8)), S0, L0, hO, h⟩
    · clear hO h
      intro H192 u193 x194 hJ
      obtain ⟨m374, hm196, hJ⟩ := lst_get hJ
      obtain ⟨a189, S190, L191, hO, h⟩ := hJ
      rcases m374 with _ | k373
      · exact absurd h (by simp [l77_7, asI, asB, asC, asS])
      obtain ⟨rec195, hrec195, h⟩ : ∃ f_, f_ = l77_7 n_ z1 z2 k373 ∧ (l77_7_st n_ z1 z2 f_ x194 a189 S190) = some r_ := ⟨_, rfl, h⟩
      unfold l77_7_st at h
      refine ⟨fun w197 => ?_, fun w198 => ?_⟩
      · replace h := ifTd w197 h
        refine ⟨fun l Hc => ∃ a292 : List (List UInt8), ∃ S293 : EMS, ∃ L294 : EML, Own Hc [cellE 9 H21.size (List.flatMap encS a292), oEM z0 L294 S293] F ∧ (k77_5 x194 rec195 a292 S293) = some r_, ?_, ?_⟩
        · obtain ⟨r298, e299, h⟩ := bindS h
          refine c101 x194 z1 z2 r298 e299 _ _ _ (fr0 hO) (fun H300 hO => ?_)
          replace hO := un0 hO
          refine ⟨r298, rfl, ?_⟩
          refine ⟨fun w301 => ?_, fun w302 => ?_⟩
          · replace h := ifTd w301 h
            exact ⟨a189, S190, L191, hO, h⟩

          · replace h := ifFd w302 h
            replace hO := open_EM (pu1 hO)
            refine ⟨L191.k, ((hO.blk (.head _)).rdv rfl), ?_⟩
            obtain ⟨r303, e304, h⟩ := bindS h
            refine c87 L191.k L191.kl S190.k r298 r303 e304 _ _ _ (fr1 (pu2 hO)) (fun H305 hO => ?_)
            replace hO := un1 hO
            refine ⟨r303, rfl, ?_⟩
            obtain ⟨x306, g307, h⟩ := getS h
            refine ⟨_, _, rfl, g307.1, g307.2.1, rfl, ?_⟩
            refine ⟨((hO.arr (.tail _ (.tail _ (.tail _ (.head _))))).wr1 lenStr (i := Int.toNat x194) (j := 0) (getLt g307.2.2) (Nat.le_of_ble_eq_true rfl) (zo0 _)), ?_⟩
            intro H308 eH308
            replace hO := os3 (l' := List.flatMap encS (List.set a189 (Int.toNat x194) r303)) hO eH308 (flat_set1 lenStr (i := Int.toNat x194) (j := 0) g307.2.2 (by decide) (zo0 _) rfl)
            refine ⟨_, _, rfl, g307.1, g307.2.1, rfl, ?_⟩
            refine ⟨r303, ((hO.arr (.tail _ (.tail _ (.tail _ (.head _))))).rd (i := Int.toNat x194) (j := 0) lenStr (setGet (getLt g307.2.2)) (by decide) (zo0 _) rfl), ?_⟩
            replace hO := close_EM L191 S190 (pu2 (pu2 (pu0 hO)))
            obtain ⟨r309, e310, h⟩ := bindS h
            refine c102 n_ z0 L191 S190 r303 r309 e310 _ _ _ (fr1 hO) (fun H311 L312 a313 k314 C315 hs316 hO => ?_)
            replace hO := un2 hO
            refine ⟨(⟨a313, r309.2.1.nodes.length, k314, r309.2.1.root, r309.2.1.err, r309.2.1.pos⟩ : TreeT), r309.2.2, rfl, ?_⟩
            intro H317 eH317
            replace hO := own_new (l := [Value.slice none 0 0, I (0 : Int), I (0 : Int), I (0 : Int)]) hO eH317 rfl
            refine ⟨(hO.blk (.head _)).wr (Nat.le_of_ble_eq_true rfl), ?_⟩
            intro H318 eH318
            replace hO := oz0 (l' := [Value.slice a313 r309.2.1.nodes.length k314, I r309.2.1.root, I r309.2.1.err, I r309.2.1.pos]) hO eH318 rfl
            refine ⟨fun w319 => ?_, fun w320 => ?_⟩
            · replace h := ifTb w319 h
              refine ⟨(⟨a313, r309.2.1.nodes.length, k314, r309.2.1.root, r309.2.1.err, r309.2.1.pos⟩ : TreeT), (hO.blk (.head _)).rowT rfl, ?_⟩
              obtain ⟨q321, h⟩ := ckS h
              obtain ⟨b322, ha_, hC_⟩ := hs316.2 q321
              subst ha_ hC_
              obtain ⟨r324, e325, h⟩ := bindS h
              refine c103 n_ b322 r309.2.1 k314 z1 z2 r324 e325 _ _ _ (fr1 (pu2 hO)) (fun H326 a327 k328 C329 hs330 hO => ?_)
              replace hO := un2 hO
              refine ⟨(⟨a327, r324.nodes.length, k328, r324.root, r324.err, r324.pos⟩ : TreeT), rfl, ?_⟩
              intro H331 eH331
              replace hO := own_new (l := [Value.slice none 0 0, I (0 : Int), I (0 : Int), I (0 : Int)]) hO eH331 rfl
              refine ⟨(hO.blk (.head _)).wr (Nat.le_of_ble_eq_true rfl), ?_⟩
              intro H332 eH332
              replace hO := oz0 (l' := [Value.slice a327 r324.nodes.length k328, I r324.root, I r324.err, I r324.pos]) hO eH332 rfl
              refine ⟨(⟨a327, r324.nodes.length, k328, r324.root, r324.err, r324.pos⟩ : TreeT), (hO.blk (.head _)).rowT rfl, ?_⟩
              obtain ⟨q333, h⟩ := ckS h
              obtain ⟨b334, ha_, hC_⟩ := hs330.2 q333
              subst ha_ hC_
              obtain ⟨r336, e337, h⟩ := bindS h
              refine c104 n_ z0 L312 r309.1 b334 r324 k328 r336 e337 _ _ _ (fr2 (pu4 (pu2 hO))) (fun H338 L339 hO => ?_)
              replace hO := un2 hO
              refine ⟨r336.2, rfl, ?_⟩
              refine ⟨_, _, rfl, g307.1, g307.2.1, rfl, ?_⟩
              refine ⟨((hO.arr (.tail _ (.tail _ (.tail _ (.tail _ (.tail _ (.head _))))))).wr1 lenStr (i := Int.toNat x194) (j := 0) (getLt (setGet (getLt g307.2.2))) (Nat.le_of_ble_eq_true rfl) (zo0 _)), ?_⟩
              intro H340 eH340
              replace hO := os5 (l' := List.flatMap encS (List.set (List.set a189 (Int.toNat x194) r303) (Int.toNat x194) r336.2)) hO eH340 (flat_set1 lenStr (i := Int.toNat x194) (j := 0) (setGet (getLt g307.2.2)) (by decide) (zo0 _) rfl)
              replace hO := dr2 (dr2 (dr2 (dr2 (pu5 (pu0 hO)))))
              exact ⟨(List.set (List.set a189 (Int.toNat x194) r303) (Int.toNat x194) r336.2), r336.1, L339, hO, h⟩

            · replace h := ifFb w320 h
              replace hO := dr2 (dr2 (pu3 (pu1 hO)))
              exact ⟨(List.set a189 (Int.toNat x194) r303), r309.1, L312, hO, h⟩



        · clear hO h
          intro H295 u296  hJ
          obtain ⟨a292, S293, L294, hO, h⟩ := hJ
          replace h : (k77_5 x194 rec195 a292 S293) = some r_ := h
          unfold k77_5 at h
          obtain ⟨q297, h⟩ := ckS h
          refine ⟨_, .inl ⟨q297, rfl⟩, ?_⟩
          subst hrec195
          exact lst_step hm196 ⟨a292, S293, L294, hO, h⟩


      · replace h := ifFd w198 h
        refine ⟨fun l Hc => ∃ m : Nat, ∃ S355 : EMS, ∃ L356 : EML, Own Hc [cellE 9 H21.size (List.flatMap encS a189), oEM z0 L356 S355] F ∧ (l77_6 n_ a189 m (asI (nth l 0)) S355) = some r_, fun l Hc => Classical.epsilon <| lsp fun m => ∃ S355 : EMS, ∃ L356 : EML, Own Hc [cellE 9 H21.size (List.flatMap encS a189), oEM z0 L356 S355] F ∧ (l77_6 n_ a189 m (asI (nth l 0)) S355) = some r_, ?_, ?_⟩
        · exact ⟨n_, S190, L191, hO, h⟩
        · clear hO h
          intro H357 u358 x359 hJ
          obtain ⟨m372, hm361, hJ⟩ := lst_get hJ
          obtain ⟨S355, L356, hO, h⟩ := hJ
          rcases m372 with _ | k371
          · exact absurd h (by simp [l77_6, asI, asB, asC, asS])
          obtain ⟨rec360, hrec360, h⟩ : ∃ f_, f_ = l77_6 n_ a189 k371 ∧ (l77_6_st n_ a189 f_ x359 S355) = some r_ := ⟨_, rfl, h⟩
          unfold l77_6_st at h
          refine ⟨fun w362 => ?_, fun w363 => ?_⟩
          · replace h := ifTd w362 h
            replace hO := open_EM (pu1 hO)
            refine ⟨L356.k, ((hO.blk (.head _)).rdv rfl), ?_⟩
            obtain ⟨x364, g365, h⟩ := getS h
            refine ⟨_, _, rfl, g365.1, g365.2.1, rfl, ?_⟩
            refine ⟨x364, ((hO.arr (.tail _ (.tail _ (.tail _ (.head _))))).rd (i := Int.toNat x359) (j := 0) lenStr g365.2.2 (by decide) (zo0 _) rfl), ?_⟩
            obtain ⟨r366, e367, h⟩ := bindS h
            refine c93 n_ L356.k L356.kl S355.k x359 x364 r366 e367 _ _ _ (fr1 (pu2 hO)) (fun H368 L369 hO => ?_)
            replace hO := un1 hO
            refine ⟨r366.2, rfl, ?_⟩
            obtain ⟨q370, h⟩ := ckS h
            refine ⟨_, .inl ⟨q370, rfl⟩, ?_⟩
            replace hO := close_EM ({ L356 with kl := L369 }) ({ S355 with k := r366.1 }) (pu2 (pu2 (pu0 hO)))
            replace hO := pu1 (pu0 hO)
            subst hrec360
            exact lst_step hm361 ⟨({ S355 with k := r366.1 }), ({ L356 with kl := L369 }), hO, h⟩

          · replace h := ifFd w363 h
            obtain rfl := Option.some.inj h
            exact hR _ L356 (dr1 (pu1 hO))







theorem c51 (n_ : Nat) (z0 : Nat) (L0 : BML) (S0 : BMS) (z1 : Int) (z2 : Int) (r_ : BMS × Int) (h : s51 n_ S0 z1 z2 = some r_) (F : List Ent) (H : Heap) (R : Value → Heap → Prop)
    (hO : Own H [oBM z0 L0 S0] F)
    (hR : ∀ (H' : Heap) (L0' : BML), Own H' [oBM z0 (L0') r_.1] F → R (I r_.2) H') :
    HCalls Tryz.prog 51 #[Value.pointer (some ⟨z0, 0, none⟩), I z1, I z2] H R := by
  refine vc51 z0 z1 z2 H R ?_
  unfold s51 at h
  obtain ⟨r21, e22, h⟩ := bindS h
  refine c73 n_ z0 L0 S0 r21 e22 _ _ _ (fr1 hO) (fun H23 b24 hO => ?_)
  replace hO := un2 hO
  refine ⟨(some ⟨b24, 0, none⟩), 24, 24, rfl, ?_⟩
  replace hO := open_BM (pu0 hO)
  refine ⟨L0.e, ((hO.blk (.head _)).rdv rfl), ?_⟩
  obtain ⟨r26, e27, h⟩ := bindS h
  refine c77 n_ L0.e L0.el S0.e z1 z2 r26 e27 _ _ _ (fr1 (pu1 hO)) (fun H28 L29 hO => ?_)
  replace hO := un1 hO
  refine ⟨r26.2, rfl, ?_⟩
  refine ⟨fun w30 => ?_, fun w31 => ?_⟩
  · replace h := ifTd w30 h
    replace hO := close_BM ({ L0 with el := L29 }) ({ S0 with e := r26.1 }) (pu3 (pu2 (pu3 (pu3 hO))))
    obtain ⟨r32, e33, h⟩ := bindS h
    refine c75 z0 ({ L0 with el := L29 }) ({ S0 with e := r26.1 }) b24 r21 r32 e33 _ _ _ (fr2 hO) (fun H34 L35 hO => ?_)
    replace hO := un1 hO
    obtain rfl := Option.some.inj h
    exact hR _ L35 hO

  · replace h := ifFd w31 h
    replace hO := close_BM ({ L0 with el := L29 }) ({ S0 with e := r26.1 }) (pu3 (pu2 (pu3 (pu3 hO))))
    obtain rfl := Option.some.inj h
    exact hR _ ({ L0 with el := L29 }) (dr1 (hO))



theorem c124_5 (b0 : Nat) (a0 : List NodeT) (i0 : Int) (z1 : Int) (z2 : Int) (r_ : List NodeT × Bool) (h : s124_5 a0 i0 z1 z2 = some r_) (F : List Ent) (H : Heap) (R : Value → Heap → Prop)
    (hO : Own H [cellE 153 b0 (List.flatMap encNode a0)] F)
    (hR : ∀ (H' : Heap) , Own H' [cellE 153 b0 (List.flatMap encNode r_.1)] F → R (.bool r_.2) H') :
    HCalls Tryz.prog 124 #[Value.pointer (some ⟨b0, 0 + Int.toNat i0 * 13 + 5, none⟩), I z1, I z2] H R := by
  refine vc124 b0 (0 + Int.toNat i0 * 13 + 5) z1 z2 H R ?_
  unfold s124_5 at h
  refine ⟨fun l Hc => ∃ a62 : List NodeT, Own Hc [cellE 153 b0 (List.flatMap encNode a62)] F ∧ (k124_5_5 i0 z2 a62) = some r_, ?_, ?_⟩
  · obtain ⟨x98, g99, h⟩ := bindS h
    refine ⟨x98.r1.ac, ((hO.arr (.head _)).rd (i := Int.toNat i0) (j := 7) lenNode g99 (by decide) (zo _ 7) rfl), ?_⟩
    refine ⟨fun w100 => ?_, fun w101 => ?_⟩
    · replace w100 := bnotT w100
      replace h := ifFb w100 h
      refine ⟨x98.r1.col, ((hO.arr (.head _)).rd (i := Int.toNat i0) (j := 5) lenNode g99 (by decide) (zo _ 5) rfl), ?_⟩
      obtain ⟨q102, h⟩ := ckS h
      refine ⟨_, .inl ⟨q102, rfl⟩, ?_⟩
      refine ⟨((hO.arr (.head _)).wr1 lenNode (i := Int.toNat i0) (j := 5) (getLt g99) (Nat.le_of_ble_eq_true rfl) (zo _ 5)), ?_⟩
      intro H103 eH103
      replace hO := os0 (l' := List.flatMap encNode (List.set a0 (Int.toNat i0) ({ x98 with r1 := { x98.r1 with col := x98.r1.col + z1 } }))) hO eH103 (flat_set1 lenNode (i := Int.toNat i0) (j := 5) g99 (by decide) (zo _ 5) rfl)
      exact ⟨(List.set a0 (Int.toNat i0) ({ x98 with r1 := { x98.r1 with col := x98.r1.col + z1 } })), hO, h⟩

    · replace w101 := bnotF w101
      replace h := ifTb w101 h
      exact ⟨a0, hO, h⟩


  · clear hO h
    intro H63 u64  hJ
    obtain ⟨a62, hO, h⟩ := hJ
    replace h : (k124_5_5 i0 z2 a62) = some r_ := h
    unfold k124_5_5 at h
    refine ⟨fun l Hc => ∃ a81 : List NodeT, Own Hc [cellE 153 b0 (List.flatMap encNode a81)] F ∧ (k124_5_4 i0 a81) = some r_, ?_, ?_⟩
    · obtain ⟨x92, g93, h⟩ := bindS h
      refine ⟨x92.r1.ar, ((hO.arr (.head _)).rd (i := Int.toNat i0) (j := 8) lenNode g93 (by decide) (zo _ 8) rfl), ?_⟩
      refine ⟨fun w94 => ?_, fun w95 => ?_⟩
      · replace w94 := bnotT w94
        replace h := ifFb w94 h
        refine ⟨x92.r1.row, ((hO.arr (.head _)).rd (i := Int.toNat i0) (j := 6) lenNode g93 (by decide) (zo _ 6) rfl), ?_⟩
        obtain ⟨q96, h⟩ := ckS h
        refine ⟨_, .inl ⟨q96, rfl⟩, ?_⟩
        refine ⟨((hO.arr (.head _)).wr1 lenNode (i := Int.toNat i0) (j := 6) (getLt g93) (Nat.le_of_ble_eq_true rfl) (zo _ 6)), ?_⟩
        intro H97 eH97
        replace hO := os0 (l' := List.flatMap encNode (List.set a62 (Int.toNat i0) ({ x92 with r1 := { x92.r1 with row := x92.r1.row + z2 } }))) hO eH97 (flat_set1 lenNode (i := Int.toNat i0) (j := 6) g93 (by decide) (zo _ 6) rfl)
        exact ⟨(List.set a62 (Int.toNat i0) ({ x92 with r1 := { x92.r1 with row := x92.r1.row + z2 } })), hO, h⟩

      · replace w95 := bnotF w95
        replace h := ifTb w95 h
        exact ⟨a62, hO, h⟩


    · clear hO h
      intro H82 u83  hJ
      obtain ⟨a81, hO, h⟩ := hJ
      replace h : (k124_5_4 i0 a81) = some r_ := h
      unfold k124_5_4 at h
      obtain ⟨x84, g85, h⟩ := bindS h
      refine ⟨x84.r1.col, ((hO.arr (.head _)).rd (i := Int.toNat i0) (j := 5) lenNode g85 (by decide) (zo _ 5) rfl), ?_⟩
      refine ⟨fun w87 => ?_, fun w86 => ?_⟩
      · replace h := ifFd w87 h
        refine ⟨x84.r1.col, ((hO.arr (.head _)).rd (i := Int.toNat i0) (j := 5) lenNode g85 (by decide) (zo _ 5) rfl), ?_⟩
        refine ⟨fun w88 => ?_, fun w89 => ?_⟩
        · replace h := ifTd w88 h
          obtain rfl := Option.some.inj h
          exact hR _ hO

        · replace h := ifFd w89 h
          refine ⟨x84.r1.row, ((hO.arr (.head _)).rd (i := Int.toNat i0) (j := 6) lenNode g85 (by decide) (zo _ 6) rfl), ?_⟩
          refine ⟨fun w90 => ?_, fun w91 => ?_⟩
          · replace h := ifTd w90 h
            refine ⟨x84.r1.row, ((hO.arr (.head _)).rd (i := Int.toNat i0) (j := 6) lenNode g85 (by decide) (zo _ 6) rfl), ?_⟩
            obtain rfl := Option.some.inj h
            exact hR _ hO

          · replace h := ifFd w91 h
            obtain rfl := Option.some.inj h
            exact hR _ hO



      · replace h := ifTd w86 h
        obtain rfl := Option.some.inj h
        exact hR _ hO




theorem c124_9 (b0 : Nat) (a0 : List NodeT) (i0 : Int) (z1 : Int) (z2 : Int) (r_ : List NodeT × Bool) (h : s124_9 a0 i0 z1 z2 = some r_) (F : List Ent) (H : Heap) (R : Value → Heap → Prop)
    (hO : Own H [cellE 153 b0 (List.flatMap encNode a0)] F)
    (hR : ∀ (H' : Heap) , Own H' [cellE 153 b0 (List.flatMap encNode r_.1)] F → R (.bool r_.2) H') :
    HCalls Tryz.prog 124 #[Value.pointer (some ⟨b0, 0 + Int.toNat i0 * 13 + 9, none⟩), I z1, I z2] H R := by
  refine vc124 b0 (0 + Int.toNat i0 * 13 + 9) z1 z2 H R ?_
  unfold s124_9 at h
  refine ⟨fun l Hc => ∃ a62 : List NodeT, Own Hc [cellE 153 b0 (List.flatMap encNode a62)] F ∧ (k124_9_5 i0 z2 a62) = some r_, ?_, ?_⟩
  · obtain ⟨x98, g99, h⟩ := bindS h
    refine ⟨x98.r2.ac, ((hO.arr (.head _)).rd (i := Int.toNat i0) (j := 11) lenNode g99 (by decide) (zo _ 11) rfl), ?_⟩
    refine ⟨fun w100 => ?_, fun w101 => ?_⟩
    · replace w100 := bnotT w100
      replace h := ifFb w100 h
      refine ⟨x98.r2.col, ((hO.arr (.head _)).rd (i := Int.toNat i0) (j := 9) lenNode g99 (by decide) (zo _ 9) rfl), ?_⟩
      obtain ⟨q102, h⟩ := ckS h
      refine ⟨_, .inl ⟨q102, rfl⟩, ?_⟩
      refine ⟨((hO.arr (.head _)).wr1 lenNode (i := Int.toNat i0) (j := 9) (getLt g99) (Nat.le_of_ble_eq_true rfl) (zo _ 9)), ?_⟩
      intro H103 eH103
      replace hO := os0 (l' := List.flatMap encNode (List.set a0 (Int.toNat i0) ({ x98 with r2 := { x98.r2 with col := x98.r2.col + z1 } }))) hO eH103 (flat_set1 lenNode (i := Int.toNat i0) (j := 9) g99 (by decide) (zo _ 9) rfl)
      exact ⟨(List.set a0 (Int.toNat i0) ({ x98 with r2 := { x98.r2 with col := x98.r2.col + z1 } })), hO, h⟩

    · replace w101 := bnotF w101
      replace h := ifTb w101 h
      exact ⟨a0, hO, h⟩


  · clear hO h
    intro H63 u64  hJ
    obtain ⟨a62, hO, h⟩ := hJ
    replace h : (k124_9_5 i0 z2 a62) = some r_ := h
    unfold k124_9_5 at h
    refine ⟨fun l Hc => ∃ a81 : List NodeT, Own Hc [cellE 153 b0 (List.flatMap encNode a81)] F ∧ (k124_9_4 i0 a81) = some r_, ?_, ?_⟩
    · obtain ⟨x92, g93, h⟩ := bindS h
      refine ⟨x92.r2.ar, ((hO.arr (.head _)).rd (i := Int.toNat i0) (j := 12) lenNode g93 (by decide) (zo _ 12) rfl), ?_⟩
      refine ⟨fun w94 => ?_, fun w95 => ?_⟩
      · replace w94 := bnotT w94
        replace h := ifFb w94 h
        refine ⟨x92.r2.row, ((hO.arr (.head _)).rd (i := Int.toNat i0) (j := 10) lenNode g93 (by decide) (zo _ 10) rfl), ?_⟩
        obtain ⟨q96, h⟩ := ckS h
        refine ⟨_, .inl ⟨q96, rfl⟩, ?_⟩
        refine ⟨((hO.arr (.head _)).wr1 lenNode (i := Int.toNat i0) (j := 10) (getLt g93) (Nat.le_of_ble_eq_true rfl) (zo _ 10)), ?_⟩
        intro H97 eH97
        replace hO := os0 (l' := List.flatMap encNode (List.set a62 (Int.toNat i0) ({ x92 with r2 := { x92.r2 with row := x92.r2.row + z2 } }))) hO eH97 (flat_set1 lenNode (i := Int.toNat i0) (j := 10) g93 (by decide) (zo _ 10) rfl)
        exact ⟨(List.set a62 (Int.toNat i0) ({ x92 with r2 := { x92.r2 with row := x92.r2.row + z2 } })), hO, h⟩

      · replace w95 := bnotF w95
        replace h := ifTb w95 h
        exact ⟨a62, hO, h⟩


    · clear hO h
      intro H82 u83  hJ
      obtain ⟨a81, hO, h⟩ := hJ
      replace h : (k124_9_4 i0 a81) = some r_ := h
      unfold k124_9_4 at h
      obtain ⟨x84, g85, h⟩ := bindS h
      refine ⟨x84.r2.col, ((hO.arr (.head _)).rd (i := Int.toNat i0) (j := 9) lenNode g85 (by decide) (zo _ 9) rfl), ?_⟩
      refine ⟨fun w87 => ?_, fun w86 => ?_⟩
      · replace h := ifFd w87 h
        refine ⟨x84.r2.col, ((hO.arr (.head _)).rd (i := Int.toNat i0) (j := 9) lenNode g85 (by decide) (zo _ 9) rfl), ?_⟩
        refine ⟨fun w88 => ?_, fun w89 => ?_⟩
        · replace h := ifTd w88 h
          obtain rfl := Option.some.inj h
          exact hR _ hO

        · replace h := ifFd w89 h
          refine ⟨x84.r2.row, ((hO.arr (.head _)).rd (i := Int.toNat i0) (j := 10) lenNode g85 (by decide) (zo _ 10) rfl), ?_⟩
          refine ⟨fun w90 => ?_, fun w91 => ?_⟩
          · replace h := ifTd w90 h
            refine ⟨x84.r2.row, ((hO.arr (.head _)).rd (i := Int.toNat i0) (j := 10) lenNode g85 (by decide) (zo _ 10) rfl), ?_⟩
            obtain rfl := Option.some.inj h
            exact hR _ hO

          · replace h := ifFd w91 h
            obtain rfl := Option.some.inj h
            exact hR _ hO



      · replace h := ifTd w86 h
        obtain rfl := Option.some.inj h
        exact hR _ hO





theorem c105 (n_ : Nat) (b0 : Nat) (a0 : List NodeT) (m0 c0 : Nat) (z1 : Int) (z2 : Int) (r_ : List NodeT) (h : s105 n_ a0 m0 z1 z2 = some r_) (F : List Ent) (H : Heap) (R : Value → Heap → Prop)
    (hO : Own H [cellE 153 b0 (List.flatMap encNode a0)] F)
    (hR : ∀ (H' : Heap) , Own H' [cellE 153 b0 (List.flatMap encNode r_)] F → R (.tuple #[]) H') :
    HCalls Tryz.prog 105 #[Value.slice (some ⟨b0, 0, none⟩) m0 c0, I z1, I z2] H R := by
  refine vc105 (some ⟨b0, 0, none⟩) m0 c0 z1 z2 H R ?_
  unfold s105 at h
  refine ⟨fun l Hc => ∃ m : Nat, ∃ a47 : List NodeT, Own Hc [cellE 153 b0 (List.flatMap encNode a47)] F ∧ (l105_3 n_ m0 z1 z2 m (asI (nth l 0)) a47) = some r_, fun l Hc => Classical.epsilon <| lsp fun m => ∃ a47 : List NodeT, Own Hc [cellE 153 b0 (List.flatMap encNode a47)] F ∧ (l105_3 n_ m0 z1 z2 m (asI (nth l 0)) a47) = some r_, ?_, ?_⟩
  · exact ⟨n_, a0, hO, h⟩
  · clear hO h
    intro H48 u49 x50 hJ
    obtain ⟨m105, hm52, hJ⟩ := lst_get hJ
    obtain ⟨a47, hO, h⟩ := hJ
    rcases m105 with _ | k104
    · exact absurd h (by simp [l105_3, asI, asB, asC, asS])
    obtain ⟨rec51, hrec51, h⟩ : ∃ f_, f_ = l105_3 n_ m0 z1 z2 k104 ∧ (l105_3_st n_ m0 z1 z2 f_ x50 a47) = some r_ := ⟨_, rfl, h⟩
    unfold l105_3_st at h
    refine ⟨fun w53 => ?_, fun w54 => ?_⟩
    · replace h := ifTd w53 h
      refine ⟨fun l Hc => ∃ a70 : List NodeT, Own Hc [cellE 153 b0 (List.flatMap encNode a70)] F ∧ (k105_2 x50 rec51 a70) = some r_, ?_, ?_⟩
      · obtain ⟨x74, g75, h⟩ := getS h
        refine ⟨_, _, rfl, g75.1, g75.2.1, rfl, ?_⟩
        refine ⟨x74.kind, ((hO.arr (.head _)).rd (i := Int.toNat x50) (j := 0) lenNode g75.2.2 (by decide) (zo0 _) rfl), ?_⟩
        refine ⟨fun w76 => ?_, fun w77 => ?_⟩
        · replace h := ifTd w76 h
          obtain ⟨r78, e79, h⟩ := bindS h
          refine c124_5 b0 a47 x50 z1 z2 r78 e79 _ _ _ (fr1 hO) (fun H80 hO => ?_)
          replace hO := un1 hO
          refine ⟨r78.2, rfl, ?_⟩
          refine ⟨fun w81 => ?_, fun w82 => ?_⟩
          · replace w81 := bnotT w81
            replace h := ifFb w81 h
            obtain ⟨r83, e84, h⟩ := bindS h
            refine c125 b0 r78.1 x50 r83 e84 _ _ _ (fr1 hO) (fun H85 hO => ?_)
            replace hO := un1 hO
            exact ⟨r83, hO, h⟩

          · replace w82 := bnotF w82
            replace h := ifTb w82 h
            exact ⟨r78.1, hO, h⟩


        · replace h := ifFd w77 h
          refine ⟨x74.kind, ((hO.arr (.head _)).rd (i := Int.toNat x50) (j := 0) lenNode g75.2.2 (by decide) (zo0 _) rfl), ?_⟩
          refine ⟨fun w86 => ?_, fun w87 => ?_⟩
          · replace h := ifTd w86 h
            obtain ⟨r88, e89, h⟩ := bindS h
            refine c124_5 b0 a47 x50 z1 z2 r88 e89 _ _ _ (fr1 hO) (fun H90 hO => ?_)
            replace hO := un1 hO
            refine ⟨r88.2, rfl, ?_⟩
            obtain ⟨r91, e92, h⟩ := bindS h
            refine c124_9 b0 r88.1 x50 z1 z2 r91 e92 _ _ _ (fr1 hO) (fun H93 hO => ?_)
            replace hO := un1 hO
            refine ⟨r91.2, rfl, ?_⟩
            refine ⟨fun w95 => ?_, fun w94 => ?_⟩
            · replace w95 := bnotF w95
              replace h := ifTb w95 h
              refine ⟨fun w96 => ?_, fun w97 => ?_⟩
              · replace w96 := bnotT w96
                replace h := ifFb w96 h
                obtain ⟨r98, e99, h⟩ := bindS h
                refine c125 b0 r91.1 x50 r98 e99 _ _ _ (fr1 hO) (fun H100 hO => ?_)
                replace hO := un1 hO
                exact ⟨r98, hO, h⟩

              · replace w97 := bnotF w97
                replace h := ifTb w97 h
                exact ⟨r91.1, hO, h⟩


            · replace w94 := bnotT w94
              replace h := ifFb w94 h
              obtain ⟨r101, e102, h⟩ := bindS h
              refine c125 b0 r91.1 x50 r101 e102 _ _ _ (fr1 hO) (fun H103 hO => ?_)
              replace hO := un1 hO
              exact ⟨r101, hO, h⟩


          · replace h := ifFd w87 h
            exact ⟨a47, hO, h⟩



      · clear hO h
        intro H71 u72  hJ
        obtain ⟨a70, hO, h⟩ := hJ
        replace h : (k105_2 x50 rec51 a70) = some r_ := h
        unfold k105_2 at h
        obtain ⟨q73, h⟩ := ckS h
        refine ⟨_, .inl ⟨q73, rfl⟩, ?_⟩
        subst hrec51
        exact lst_step hm52 ⟨a70, hO, h⟩


    · replace h := ifFd w54 h
      obtain rfl := Option.some.inj h
      exact hR _ hO




theorem c78 (n_ : Nat) (z0 : Nat) (L0 : EL) (S0 : ES) (z1 : Int) (z2 : Int) (r_ : ES × Int) (h : s78 n_ S0 z1 z2 = some r_) (F : List Ent) (H : Heap) (R : Value → Heap → Prop)
    (hO : Own H [oE z0 L0 S0] F)
    (hR : ∀ (H' : Heap) , Own H' [oE z0 L0 r_.1] F → R (I r_.2) H') :
    HCalls Tryz.prog 78 #[Value.pointer (some ⟨z0, 0, none⟩), I z1, I z2] H R := by
  refine vc78 z0 z1 z2 H R ?_
  unfold s78 at h
  refine ⟨fun w22 => ?_, fun w21 => ?_⟩
  · replace h := ifFd w22 h
    refine ⟨fun w23 => ?_, fun w24 => ?_⟩
    · replace h := ifTd w23 h
      obtain rfl := Option.some.inj h
      exact hR _ hO

    · replace h := ifFd w24 h
      refine ⟨fun w26 => ?_, fun w25 => ?_⟩
      · replace h := ifFd w26 h
        refine ⟨fun w27 => ?_, fun w28 => ?_⟩
        · replace h := ifTd w27 h
          obtain rfl := Option.some.inj h
          exact hR _ hO

        · replace h := ifFd w28 h
          replace hO := open_E (pu0 hO)
          refine ⟨L0.k, ((hO.blk (.head _)).rdv rfl), ?_⟩
          obtain ⟨r29, e30, h⟩ := bindS h
          refine c86 L0.k L0.kl S0.k z1 r29 e30 _ _ _ (fr1 (pu2 hO)) (fun H31 hO => ?_)
          replace hO := un1 hO
          refine ⟨r29, rfl, ?_⟩
          replace hO := close_E L0 S0 (pu3 (pu3 (pu1 (pu3 hO))))
          obtain ⟨r32, e33, h⟩ := bindS h
          refine c97 n_ z0 L0 S0 r29 r32 e33 _ _ _ (fr1 hO) (fun H34 a35 k36 C37 hs38 hO => ?_)
          replace hO := un2 hO
          refine ⟨(⟨a35, r32.2.1.nodes.length, k36, r32.2.1.root, r32.2.1.err, r32.2.1.pos⟩ : TreeT), r32.2.2, rfl, ?_⟩
          intro H39 eH39
          replace hO := own_new (l := [Value.slice none 0 0, I (0 : Int), I (0 : Int), I (0 : Int)]) hO eH39 rfl
          refine ⟨(hO.blk (.head _)).wr (Nat.le_of_ble_eq_true rfl), ?_⟩
          intro H40 eH40
          replace hO := oz0 (l' := [Value.slice a35 r32.2.1.nodes.length k36, I r32.2.1.root, I r32.2.1.err, I r32.2.1.pos]) hO eH40 rfl
          refine ⟨fun l Hc => ∃ S65 : ES, Own Hc [oE z0 L0 S65] F ∧ (k78_1 n_ z2 (asS (nth l 0)) S65) = some r_, ?_, ?_⟩
          · refine ⟨fun w74 => ?_, fun w75 => ?_⟩
            · replace h := ifTb w74 h
              refine ⟨a35, r32.2.1.nodes.length, k36, ((hO.blk (.head _)).rdv rfl), ?_⟩
              refine ⟨(by decide), ?_⟩
              refine ⟨(by decide), ?_⟩
              obtain ⟨q76, h⟩ := ckS h
              refine ⟨q76, ?_⟩
              obtain ⟨q77, h⟩ := ckS h
              refine ⟨(by decide), q77, ?_⟩
              obtain ⟨q78, h⟩ := ckS h
              refine ⟨(by decide), q78, ?_⟩
              obtain ⟨q79, h⟩ := ckS h
              refine ⟨q79, ?_⟩
              obtain ⟨q80, h⟩ := ckS h
              obtain ⟨b81, ha_, hC_⟩ := hs38.2 q80
              subst ha_ hC_
              obtain ⟨r83, e84, h⟩ := bindS h
              refine c105 n_ b81 r32.2.1.nodes r32.2.1.nodes.length k36 ((Int.tmod z2 (4 : Int)) - (Int.tmod z1 (4 : Int))) ((Int.tdiv z2 (4 : Int)) - (Int.tdiv z1 (4 : Int))) r83 e84 _ _ _ (fr1 (pu2 hO)) (fun H85 hO => ?_)
              replace hO := un1 hO
              refine ⟨(⟨(some ⟨b81, 0, none⟩), r32.2.1.nodes.length, k36, r32.2.1.root, r32.2.1.err, r32.2.1.pos⟩ : TreeT), (hO.blk (.tail _ (.head _))).rowT rfl, ?_⟩
              obtain ⟨q86, h⟩ := ckS h
              rw [q86]
              obtain ⟨r87, e88, h⟩ := bindS h
              refine c99 n_ z0 L0 r32.1 b81 (⟨r83, r32.2.1.root, r32.2.1.err, r32.2.1.pos⟩ : TreeV) k36 r87 e88 _ _ _ (fr2 (pu2 (pu0 hO))) (fun H89 hO => ?_)
              replace hO := un2 hO
              refine ⟨r87.2, rfl, ?_⟩
              replace hO := dr1 (dr1 (hO))
              exact ⟨r87.1, hO, h⟩

            · replace h := ifFb w75 h
              replace hO := dr1 (dr1 (pu1 hO))
              exact ⟨r32.1, hO, h⟩


          · clear hO h
            intro H66 u67 x68 hJ
            obtain ⟨S65, hO, h⟩ := hJ
            replace h : (k78_1 n_ z2 x68 S65) = some r_ := h
            unfold k78_1 at h
            refine ⟨fun w69 => ?_, fun w70 => ?_⟩
            · replace h := ifTd w69 h
              obtain rfl := Option.some.inj h
              exact hR _ hO

            · replace h := ifFd w70 h
              obtain ⟨r71, e72, h⟩ := bindS h
              refine c100 n_ z0 L0 S65 z2 x68 r71 e72 _ _ _ (fr1 hO) (fun H73 hO => ?_)
              replace hO := un1 hO
              obtain rfl := Option.some.inj h
              exact hR _ hO




      · replace h := ifTd w25 h
        obtain rfl := Option.some.inj h
        exact hR _ hO



  · replace h := ifTd w21 h
    obtain rfl := Option.some.inj h
    exact hR _ hO



theorem c52 (n_ : Nat) (z0 : Nat) (L0 : BL) (S0 : BS) (z1 : Int) (z2 : Int) (r_ : BS × Int) (h : s52 n_ S0 z1 z2 = some r_) (F : List Ent) (H : Heap) (R : Value → Heap → Prop)
    (hO : Own H [oB z0 L0 S0] F)
    (hR : ∀ (H' : Heap) , Own H' [oB z0 L0 r_.1] F → R (I r_.2) H') :
    HCalls Tryz.prog 52 #[Value.pointer (some ⟨z0, 0, none⟩), I z1, I z2] H R := by
  refine vc52 z0 z1 z2 H R ?_
  unfold s52 at h
  obtain ⟨r21, e22, h⟩ := bindS h
  refine c70 n_ z0 L0 S0 r21 e22 _ _ _ (fr1 hO) (fun H23 hO => ?_)
  replace hO := un1 hO
  replace hO := open_B (pu0 hO)
  refine ⟨L0.e, ((hO.blk (.head _)).rdv rfl), ?_⟩
  obtain ⟨r24, e25, h⟩ := bindS h
  refine c78 n_ L0.e L0.el r21.e z1 z2 r24 e25 _ _ _ (fr1 (pu1 hO)) (fun H26 hO => ?_)
  replace hO := un1 hO
  refine ⟨r24.2, rfl, ?_⟩
  refine ⟨fun w27 => ?_, fun w28 => ?_⟩
  · replace h := ifTd w27 h
    replace hO := close_B L0 ({ r21 with e := r24.1 }) (pu5 (pu4 (pu5 (pu5 (pu5 (pu5 hO))))))
    obtain ⟨r29, e30, h⟩ := bindS h
    refine c72 n_ z0 L0 ({ r21 with e := r24.1 }) r29 e30 _ _ _ (fr1 hO) (fun H31 hO => ?_)
    replace hO := un1 hO
    obtain rfl := Option.some.inj h
    exact hR _ hO

  · replace h := ifFd w28 h
    replace hO := close_B L0 ({ r21 with e := r24.1 }) (pu5 (pu4 (pu5 (pu5 (pu5 (pu5 hO))))))
    obtain rfl := Option.some.inj h
    exact hR _ hO



theorem c152 (z0 : RefT) (z1 : Int) (z2 : Int) (r_ : RefT × Bool) (h : s152 z0 z1 z2 = some r_) (F : List Ent) (H : Heap) (R : Value → Heap → Prop)
    (hO : Own H [] F)
    (hR : ∀ (H' : Heap) , Own H' [] F → R (.tuple #[.agg ⟨encRef r_.1⟩, .bool r_.2]) H') :
    HCalls Tryz.prog 152 #[Value.agg ⟨encRef z0⟩, I z1, I z2] H R := by
  refine vc152 z0 z1 z2 H R ?_
  unfold s152 at h
  intro H21 eH21
  replace hO := own_new (l := encRef z0) hO eH21 rfl
  intro H22 eH22
  replace hO := own_new (l := encRef (⟨(0 : Int), (0 : Int), false, false⟩ : RefT)) hO eH22 rfl
  refine ⟨fun l Hc => ∃ t78 : RefT, Own Hc [cellE 151 H21.size (encRef (⟨(0 : Int), (0 : Int), false, false⟩ : RefT)), cellE 151 H.size (encRef t78)] F ∧ (k152_5 z2 t78) = some r_, ?_, ?_⟩
  · refine ⟨z0.ac, ((hO.blk (.tail _ (.head _))).rdv rfl), ?_⟩
    refine ⟨fun w130 => ?_, fun w131 => ?_⟩
    · replace w130 := bnotT w130
      replace h := ifFb w130 h
      refine ⟨z0.col, ((hO.blk (.tail _ (.head _))).rdv rfl), ?_⟩
      obtain ⟨q132, h⟩ := ckS h
      refine ⟨_, .inl ⟨q132, rfl⟩, ?_⟩
      refine ⟨(hO.blk (.tail _ (.head _))).wr (Nat.le_of_ble_eq_true rfl), ?_⟩
      intro H133 eH133
      replace hO := os1 (l' := encRef ({ z0 with col := z0.col + z1 })) hO eH133 rfl
      exact ⟨({ z0 with col := z0.col + z1 }), hO, h⟩

    · replace w131 := bnotF w131
      replace h := ifTb w131 h
      exact ⟨z0, hO, h⟩


  · clear hO h
    intro H79 u80  hJ
    obtain ⟨t78, hO, h⟩ := hJ
    replace h : (k152_5 z2 t78) = some r_ := h
    unfold k152_5 at h
    refine ⟨fun l Hc => ∃ t105 : RefT, Own Hc [cellE 151 H21.size (encRef (⟨(0 : Int), (0 : Int), false, false⟩ : RefT)), cellE 151 H.size (encRef t105)] F ∧ (k152_4 t105) = some r_, ?_, ?_⟩
    · refine ⟨t78.ar, ((hO.blk (.tail _ (.head _))).rdv rfl), ?_⟩
      refine ⟨fun w126 => ?_, fun w127 => ?_⟩
      · replace w126 := bnotT w126
        replace h := ifFb w126 h
        refine ⟨t78.row, ((hO.blk (.tail _ (.head _))).rdv rfl), ?_⟩
        obtain ⟨q128, h⟩ := ckS h
        refine ⟨_, .inl ⟨q128, rfl⟩, ?_⟩
        refine ⟨(hO.blk (.tail _ (.head _))).wr (Nat.le_of_ble_eq_true rfl), ?_⟩
        intro H129 eH129
        replace hO := os1 (l' := encRef ({ t78 with row := t78.row + z2 })) hO eH129 rfl
        exact ⟨({ t78 with row := t78.row + z2 }), hO, h⟩

      · replace w127 := bnotF w127
        replace h := ifTb w127 h
        exact ⟨t78, hO, h⟩


    · clear hO h
      intro H106 u107  hJ
      obtain ⟨t105, hO, h⟩ := hJ
      replace h : (k152_4 t105) = some r_ := h
      unfold k152_4 at h
      refine ⟨t105, (hO.blk (.tail _ (.head _))).rowT rfl, ?_⟩
      refine ⟨t105.col, ((hO.blk (.tail _ (.head _))).rdv rfl), ?_⟩
      refine ⟨fun w108 => ?_, fun w109 => ?_⟩
      · replace h := ifTd w108 h
        refine ⟨t105.col, ((hO.blk (.tail _ (.head _))).rdv rfl), ?_⟩
        refine ⟨fun w110 => ?_, fun w111 => ?_⟩
        · replace h := ifTd w110 h
          refine ⟨t105.row, ((hO.blk (.tail _ (.head _))).rdv rfl), ?_⟩
          refine ⟨fun w112 => ?_, fun w113 => ?_⟩
          · replace h := ifTd w112 h
            refine ⟨?_, ?_⟩
            · refine ⟨t105.row, ((hO.blk (.tail _ (.head _))).rdv rfl), ?_⟩
              refine ⟨(hO.blk (.head _)).wr (Nat.le_of_ble_eq_true rfl), ?_⟩
              intro H115 eH115
              replace hO := oz0 (l' := encRef t105) hO eH115 rfl
              refine ⟨t105, (hO.blk (.head _)).rowT rfl, ?_⟩
              obtain rfl := Option.some.inj h
              exact hR _ (dr0 (dr0 (hO)))

            · refine ⟨(hO.blk (.head _)).wr (Nat.le_of_ble_eq_true rfl), ?_⟩
              intro H116 eH116
              replace hO := oz0 (l' := encRef t105) hO eH116 rfl
              refine ⟨t105.row, ((hO.blk (.tail _ (.head _))).rdv rfl), ?_⟩
              refine ⟨t105, (hO.blk (.head _)).rowT rfl, ?_⟩
              obtain rfl := Option.some.inj h
              exact hR _ (dr0 (dr0 (hO)))


          · replace h := ifFd w113 h
            refine ⟨?_, ?_⟩
            · refine ⟨(hO.blk (.head _)).wr (Nat.le_of_ble_eq_true rfl), ?_⟩
              intro H118 eH118
              replace hO := oz0 (l' := encRef t105) hO eH118 rfl
              refine ⟨t105, (hO.blk (.head _)).rowT rfl, ?_⟩
              obtain rfl := Option.some.inj h
              exact hR _ (dr0 (dr0 (hO)))

            · refine ⟨(hO.blk (.head _)).wr (Nat.le_of_ble_eq_true rfl), ?_⟩
              intro H119 eH119
              replace hO := oz0 (l' := encRef t105) hO eH119 rfl
              refine ⟨t105, (hO.blk (.head _)).rowT rfl, ?_⟩
              obtain rfl := Option.some.inj h
              exact hR _ (dr0 (dr0 (hO)))



        · replace h := ifFd w111 h
          refine ⟨?_, ?_⟩
          · refine ⟨(hO.blk (.head _)).wr (Nat.le_of_ble_eq_true rfl), ?_⟩
            intro H121 eH121
            replace hO := oz0 (l' := encRef t105) hO eH121 rfl
            refine ⟨t105, (hO.blk (.head _)).rowT rfl, ?_⟩
            obtain rfl := Option.some.inj h
            exact hR _ (dr0 (dr0 (hO)))

          · refine ⟨(hO.blk (.head _)).wr (Nat.le_of_ble_eq_true rfl), ?_⟩
            intro H122 eH122
            replace hO := oz0 (l' := encRef t105) hO eH122 rfl
            refine ⟨t105, (hO.blk (.head _)).rowT rfl, ?_⟩
            obtain rfl := Option.some.inj h
            exact hR _ (dr0 (dr0 (hO)))



      · replace h := ifFd w109 h
        refine ⟨?_, ?_⟩
        · refine ⟨(hO.blk (.head _)).wr (Nat.le_of_ble_eq_true rfl), ?_⟩
          intro H124 eH124
          replace hO := oz0 (l' := encRef t105) hO eH124 rfl
          refine ⟨t105, (hO.blk (.head _)).rowT rfl, ?_⟩
          obtain rfl := Option.some.inj h
          exact hR _ (dr0 (dr0 (hO)))

        · refine ⟨(hO.blk (.head _)).wr (Nat.le_of_ble_eq_true rfl), ?_⟩
          intro H125 eH125
          replace hO := oz0 (l' := encRef t105) hO eH125 rfl
          refine ⟨t105, (hO.blk (.head _)).rowT rfl, ?_⟩
          obtain rfl := Option.some.inj h
          exact hR _ (dr0 (dr0 (hO)))






theorem c126 (z0 : NodeT) (z1 : Int) (z2 : Int) (r_ : NodeT) (h : s126 z0 z1 z2 = some r_) (F : List Ent) (H : Heap) (R : Value → Heap → Prop)
    (hO : Own H [] F)
    (hR : ∀ (H' : Heap) , Own H' [] F → R (.agg ⟨encNode r_⟩) H') :
    HCalls Tryz.prog 126 #[Value.agg ⟨encNode z0⟩, I z1, I z2] H R := by
  refine vc126 z0 z1 z2 H R ?_
  unfold s126 at h
  intro H21 eH21
  replace hO := own_new (l := encNode z0) hO eH21 rfl
  intro H22 eH22
  replace hO := own_new (l := encNode (⟨(0 : Int), (0 : Int), (0 : Int), (0 : Int), (0 : Int), (⟨(0 : Int), (0 : Int), false, false⟩ : RefT), (⟨(0 : Int), (0 : Int), false, false⟩ : RefT)⟩ : NodeT)) hO eH22 rfl
  refine ⟨z0.kind, ((hO.blk (.tail _ (.head _))).rdv rfl), ?_⟩
  refine ⟨fun w23 => ?_, fun w24 => ?_⟩
  · replace w23 := bnotT w23
    replace h := ifFd w23 h
    refine ⟨z0.kind, ((hO.blk (.tail _ (.head _))).rdv rfl), ?_⟩
    refine ⟨fun w25 => ?_, fun w26 => ?_⟩
    · replace w25 := bnotT w25
      replace h := ifFd w25 h
      refine ⟨z0, (hO.blk (.tail _ (.head _))).rowT rfl, ?_⟩
      refine ⟨(hO.blk (.head _)).wr (Nat.le_of_ble_eq_true rfl), ?_⟩
      intro H27 eH27
      replace hO := oz0 (l' := encNode z0) hO eH27 rfl
      refine ⟨z0, (hO.blk (.head _)).rowT rfl, ?_⟩
      obtain rfl := Option.some.inj h
      exact hR _ (dr0 (dr0 (hO)))

    · replace w26 := bnotF w26
      replace h := ifTd w26 h
      refine ⟨z0.r1, (hO.blk (.tail _ (.head _))).rowT rfl, ?_⟩
      obtain ⟨r28, e29, h⟩ := bindS h
      refine c152 z0.r1 z1 z2 r28 e29 _ _ _ (fr0 hO) (fun H30 hO => ?_)
      replace hO := un0 hO
      refine ⟨r28.1, r28.2, rfl, ?_⟩
      refine ⟨(hO.blk (.tail _ (.head _))).wr (Nat.le_of_ble_eq_true rfl), ?_⟩
      intro H31 eH31
      replace hO := oz1 (l' := encNode ({ z0 with r1 := r28.1 })) hO eH31 rfl
      refine ⟨fun l Hc => ∃ t48 : NodeT, Own Hc [cellE 153 H21.size (encNode (⟨(0 : Int), (0 : Int), (0 : Int), (0 : Int), (0 : Int), (⟨(0 : Int), (0 : Int), false, false⟩ : RefT), (⟨(0 : Int), (0 : Int), false, false⟩ : RefT)⟩ : NodeT)), cellE 153 H.size (encNode t48)] F ∧ (k126_1 r28 (asB (nth l 0)) t48) = some r_, ?_, ?_⟩
      · refine ⟨z0.kind, ((hO.blk (.tail _ (.head _))).rdv rfl), ?_⟩
        refine ⟨fun _ => ?_, fun c => (by simp [w26] at c)⟩
        refine ⟨z0.r2, (hO.blk (.tail _ (.head _))).rowT rfl, ?_⟩
        obtain ⟨r61, e62, h⟩ := bindS h
        refine c152 z0.r2 z1 z2 r61 e62 _ _ _ (fr0 hO) (fun H63 hO => ?_)
        replace hO := un0 hO
        refine ⟨r61.1, r61.2, rfl, ?_⟩
        refine ⟨(hO.blk (.tail _ (.head _))).wr (Nat.le_of_ble_eq_true rfl), ?_⟩
        intro H64 eH64
        replace hO := oz1 (l' := encNode ({ z0 with r1 := r28.1, r2 := r61.1 })) hO eH64 rfl
        exact ⟨({ z0 with r1 := r28.1, r2 := r61.1 }), hO, h⟩

      · clear hO h
        intro H49 u50 x51 hJ
        obtain ⟨t48, hO, h⟩ := hJ
        replace h : (k126_1 r28 x51 t48) = some r_ := h
        unfold k126_1 at h
        refine ⟨fun w53 => ?_, fun w52 => ?_⟩
        · replace w53 := bnotF w53
          replace h := ifTb w53 h
          refine ⟨fun w54 => ?_, fun w55 => ?_⟩
          · replace w54 := bnotT w54
            replace h := ifFb w54 h
            refine c148 _ rfl _ _ _ (fr0 hO) (fun H56 hO => ?_)
            replace hO := un0 hO
            refine ⟨s148, rfl, ?_⟩
            refine ⟨(hO.blk (.head _)).wr (Nat.le_of_ble_eq_true rfl), ?_⟩
            intro H57 eH57
            replace hO := oz0 (l' := encNode s148) hO eH57 rfl
            refine ⟨s148, (hO.blk (.head _)).rowT rfl, ?_⟩
            obtain rfl := Option.some.inj h
            exact hR _ (dr0 (dr0 (hO)))

          · replace w55 := bnotF w55
            replace h := ifTb w55 h
            refine ⟨t48, (hO.blk (.tail _ (.head _))).rowT rfl, ?_⟩
            refine ⟨(hO.blk (.head _)).wr (Nat.le_of_ble_eq_true rfl), ?_⟩
            intro H58 eH58
            replace hO := oz0 (l' := encNode t48) hO eH58 rfl
            refine ⟨t48, (hO.blk (.head _)).rowT rfl, ?_⟩
            obtain rfl := Option.some.inj h
            exact hR _ (dr0 (dr0 (hO)))


        · replace w52 := bnotT w52
          replace h := ifFb w52 h
          refine c148 _ rfl _ _ _ (fr0 hO) (fun H59 hO => ?_)
          replace hO := un0 hO
          refine ⟨s148, rfl, ?_⟩
          refine ⟨(hO.blk (.head _)).wr (Nat.le_of_ble_eq_true rfl), ?_⟩
          intro H60 eH60
          replace hO := oz0 (l' := encNode s148) hO eH60 rfl
          refine ⟨s148, (hO.blk (.head _)).rowT rfl, ?_⟩
          obtain rfl := Option.some.inj h
          exact hR _ (dr0 (dr0 (hO)))




  · replace w24 := bnotF w24
    replace h := ifTd w24 h
    refine ⟨z0.r1, (hO.blk (.tail _ (.head _))).rowT rfl, ?_⟩
    obtain ⟨r65, e66, h⟩ := bindS h
    refine c152 z0.r1 z1 z2 r65 e66 _ _ _ (fr0 hO) (fun H67 hO => ?_)
    replace hO := un0 hO
    refine ⟨r65.1, r65.2, rfl, ?_⟩
    refine ⟨(hO.blk (.tail _ (.head _))).wr (Nat.le_of_ble_eq_true rfl), ?_⟩
    intro H68 eH68
    replace hO := oz1 (l' := encNode ({ z0 with r1 := r65.1 })) hO eH68 rfl
    refine ⟨fun l Hc => ∃ t87 : NodeT, Own Hc [cellE 153 H21.size (encNode (⟨(0 : Int), (0 : Int), (0 : Int), (0 : Int), (0 : Int), (⟨(0 : Int), (0 : Int), false, false⟩ : RefT), (⟨(0 : Int), (0 : Int), false, false⟩ : RefT)⟩ : NodeT)), cellE 153 H.size (encNode t87)] F ∧ (k126_1 r65 (asB (nth l 0)) t87) = some r_, ?_, ?_⟩
    · refine ⟨z0.kind, ((hO.blk (.tail _ (.head _))).rdv rfl), ?_⟩
      refine ⟨fun w100 => ?_, fun w101 => ?_⟩
      · replace h := ifTd w100 h
        refine ⟨z0.r2, (hO.blk (.tail _ (.head _))).rowT rfl, ?_⟩
        obtain ⟨r102, e103, h⟩ := bindS h
        refine c152 z0.r2 z1 z2 r102 e103 _ _ _ (fr0 hO) (fun H104 hO => ?_)
        replace hO := un0 hO
        refine ⟨r102.1, r102.2, rfl, ?_⟩
        refine ⟨(hO.blk (.tail _ (.head _))).wr (Nat.le_of_ble_eq_true rfl), ?_⟩
        intro H105 eH105
        replace hO := oz1 (l' := encNode ({ z0 with r1 := r65.1, r2 := r102.1 })) hO eH105 rfl
        exact ⟨({ z0 with r1 := r65.1, r2 := r102.1 }), hO, h⟩

      · replace h := ifFd w101 h
        exact ⟨({ z0 with r1 := r65.1 }), hO, h⟩


    · clear hO h
      intro H88 u89 x90 hJ
      obtain ⟨t87, hO, h⟩ := hJ
      replace h : (k126_1 r65 x90 t87) = some r_ := h
      unfold k126_1 at h
      refine ⟨fun w92 => ?_, fun w91 => ?_⟩
      · replace w92 := bnotF w92
        replace h := ifTb w92 h
        refine ⟨fun w93 => ?_, fun w94 => ?_⟩
        · replace w93 := bnotT w93
          replace h := ifFb w93 h
          refine c148 _ rfl _ _ _ (fr0 hO) (fun H95 hO => ?_)
          replace hO := un0 hO
          refine ⟨s148, rfl, ?_⟩
          refine ⟨(hO.blk (.head _)).wr (Nat.le_of_ble_eq_true rfl), ?_⟩
          intro H96 eH96
          replace hO := oz0 (l' := encNode s148) hO eH96 rfl
          refine ⟨s148, (hO.blk (.head _)).rowT rfl, ?_⟩
          obtain rfl := Option.some.inj h
          exact hR _ (dr0 (dr0 (hO)))

        · replace w94 := bnotF w94
          replace h := ifTb w94 h
          refine ⟨t87, (hO.blk (.tail _ (.head _))).rowT rfl, ?_⟩
          refine ⟨(hO.blk (.head _)).wr (Nat.le_of_ble_eq_true rfl), ?_⟩
          intro H97 eH97
          replace hO := oz0 (l' := encNode t87) hO eH97 rfl
          refine ⟨t87, (hO.blk (.head _)).rowT rfl, ?_⟩
          obtain rfl := Option.some.inj h
          exact hR _ (dr0 (dr0 (hO)))


      · replace w91 := bnotT w91
        replace h := ifFb w91 h
        refine c148 _ rfl _ _ _ (fr0 hO) (fun H98 hO => ?_)
        replace hO := un0 hO
        refine ⟨s148, rfl, ?_⟩
        refine ⟨(hO.blk (.head _)).wr (Nat.le_of_ble_eq_true rfl), ?_⟩
        intro H99 eH99
        replace hO := oz0 (l' := encNode s148) hO eH99 rfl
        refine ⟨s148, (hO.blk (.head _)).rowT rfl, ?_⟩
        obtain rfl := Option.some.inj h
        exact hR _ (dr0 (dr0 (hO)))





theorem c106 (n_ : Nat) (b0 : Nat) (t0 : TreeV) (c0 : Nat) (z1 : Int) (z2 : Int) (r_ : TreeV) (h : s106 n_ t0 z1 z2 = some r_) (F : List Ent) (H : Heap) (R : Value → Heap → Prop)
    (hO : Own H [cellE 153 b0 (List.flatMap encNode t0.nodes)] F)
    (hR : ∀ (H' : Heap) (a_0 : Option Addr) (c_0 : Nat) (C_0 : List Ent) (_ : SH 153 encNode r_.nodes a_0 r_.nodes.length C_0), Own H' [cellE 153 b0 (List.flatMap encNode t0.nodes), C_0] F → R (.agg ⟨encTree ⟨a_0, r_.nodes.length, c_0, r_.root, r_.err, r_.pos⟩⟩) H') :
    HCalls Tryz.prog 106 #[Value.agg ⟨encTree ⟨some ⟨b0, 0, none⟩, t0.nodes.length, c0, t0.root, t0.err, t0.pos⟩⟩, I z1, I z2] H R := by
  refine vc106 ⟨some ⟨b0, 0, none⟩, t0.nodes.length, c0, t0.root, t0.err, t0.pos⟩ z1 z2 H R ?_
  unfold s106 at h
  intro H21 eH21
  replace hO := own_new (l := [Value.slice (some ⟨b0, 0, none⟩) t0.nodes.length c0, I t0.root, I t0.err, I t0.pos]) hO eH21 rfl
  intro H22 eH22
  replace hO := own_new (l := [Value.slice none 0 0, I (0 : Int), I (0 : Int), I (0 : Int)]) hO eH22 rfl
  refine ⟨(some ⟨b0, 0, none⟩), t0.nodes.length, c0, ((hO.blk (.tail _ (.head _))).rdv rfl), ?_⟩
  obtain ⟨r23, e24, h⟩ := bindS h
  refine c121 b0 t0.nodes t0.nodes.length c0 r23 e24 _ _ _ (fr1 (pu2 hO)) (fun H25 a26 m27 k28 C29 hs30 hO => ?_)
  replace hO := un2 hO
  obtain rfl := hs30.1
  refine ⟨a26, r23.length, k28, rfl, ?_⟩
  obtain ⟨q31, h⟩ := ckS h
  obtain ⟨b32, ha_, hC_⟩ := hs30.2 q31
  subst ha_ hC_
  refine ⟨fun l Hc => ∃ m : Nat, ∃ a48 : List NodeT, Own Hc [cellE 153 b0 (List.flatMap encNode t0.nodes), cellE 153 b32 (List.flatMap encNode a48), cellE 131 H21.size [Value.slice none 0 0, I (0 : Int), I (0 : Int), I (0 : Int)], cellE 131 H.size [Value.slice (some ⟨b0, 0, none⟩) t0.nodes.length c0, I t0.root, I t0.err, I t0.pos]] F ∧ (l106_0 n_ t0 z1 z2 r23 m (asI (nth l 0)) a48) = some r_, fun l Hc => Classical.epsilon <| lsp fun m => ∃ a48 : List NodeT, Own Hc [cellE 153 b0 (List.flatMap encNode t0.nodes), cellE 153 b32 (List.flatMap encNode a48), cellE 131 H21.size [Value.slice none 0 0, I (0 : Int), I (0 : Int), I (0 : Int)], cellE 131 H.size [Value.slice (some ⟨b0, 0, none⟩) t0.nodes.length c0, I t0.root, I t0.err, I t0.pos]] F ∧ (l106_0 n_ t0 z1 z2 r23 m (asI (nth l 0)) a48) = some r_, ?_, ?_⟩
  · exact ⟨n_, r23, hO, h⟩
  · clear hO h
    intro H49 u50 x51 hJ
    obtain ⟨m66, hm53, hJ⟩ := lst_get hJ
    obtain ⟨a48, hO, h⟩ := hJ
    rcases m66 with _ | k65
    · exact absurd h (by simp [l106_0, asI, asB, asC, asS])
    obtain ⟨rec52, hrec52, h⟩ : ∃ f_, f_ = l106_0 n_ t0 z1 z2 r23 k65 ∧ (l106_0_st n_ t0 z1 z2 r23 f_ x51 a48) = some r_ := ⟨_, rfl, h⟩
    unfold l106_0_st at h
    refine ⟨fun w54 => ?_, fun w55 => ?_⟩
    · replace h := ifTd w54 h
      obtain ⟨x56, g57, h⟩ := getS h
      refine ⟨_, _, rfl, g57.1, g57.2.1, rfl, ?_⟩
      refine ⟨x56, (hO.arr (.tail _ (.head _))).row (i := Int.toNat x51) lenNode g57.2.2 (Nat.zero_add _), ?_⟩
      obtain ⟨r58, e59, h⟩ := bindS h
      refine c126 x56 z1 z2 r58 e59 _ _ _ (fr0 hO) (fun H60 hO => ?_)
      replace hO := un0 hO
      refine ⟨r58, rfl, ?_⟩
      refine ⟨_, _, rfl, g57.1, g57.2.1, rfl, ?_⟩
      refine ⟨((hO.arr (.tail _ (.head _))).wr1 lenNode (i := Int.toNat x51) (j := 0) (getLt g57.2.2) (Nat.le_of_ble_eq_true rfl) (zo0 _)), ?_⟩
      intro H61 eH61
      replace hO := oz1 (l' := List.flatMap encNode (List.set a48 (Int.toNat x51) r58)) hO eH61 (flat_put1 lenNode (i := Int.toNat x51) (x := r58) (getLt g57.2.2) (Nat.zero_add _))
      obtain ⟨q62, h⟩ := ckS h
      refine ⟨_, .inl ⟨q62, rfl⟩, ?_⟩
      subst hrec52
      exact lst_step hm53 ⟨(List.set a48 (Int.toNat x51) r58), hO, h⟩

    · replace h := ifFd w55 h
      refine ⟨t0.root, ((hO.blk (.tail _ (.tail _ (.tail _ (.head _))))).rdv rfl), ?_⟩
      refine ⟨(hO.blk (.tail _ (.tail _ (.head _)))).wr (Nat.le_of_ble_eq_true rfl), ?_⟩
      intro H63 eH63
      replace hO := oz2 (l' := [Value.slice (some ⟨b32, 0, none⟩) r23.length k28, I t0.root, I (0 : Int), I (0 : Int)]) hO eH63 rfl
      refine ⟨(⟨(some ⟨b32, 0, none⟩), r23.length, k28, t0.root, (0 : Int), (0 : Int)⟩ : TreeT), (hO.blk (.tail _ (.tail _ (.head _)))).rowT rfl, ?_⟩
      obtain ⟨q64, h⟩ := ckS h
      rw [q64]
      obtain rfl := Option.some.inj h
      exact hR _ (some ⟨b32, 0, none⟩) k28 _ (shBlk rfl) (dr2 (dr2 (hO)))




theorem c79 (n_ : Nat) (z0 : Nat) (L0 : EML) (S0 : EMS) (z1 : Int) (z2 : Int) (r_ : EMS × Int) (h : s79 n_ S0 z1 z2 = some r_) (F : List Ent) (H : Heap) (R : Value → Heap → Prop)
    (hO : Own H [oEM z0 L0 S0] F)
    (hR : ∀ (H' : Heap) (L0' : EML), Own H' [oEM z0 (L0') r_.1] F → R (I r_.2) H') :
    HCalls Tryz.prog 79 #[Value.pointer (some ⟨z0, 0, none⟩), I z1, I z2] H R := by
  refine vc79 z0 z1 z2 H R ?_
  unfold s79 at h
  refine ⟨fun w22 => ?_, fun w21 => ?_⟩
  · replace h := ifFd w22 h
    refine ⟨fun w24 => ?_, fun w23 => ?_⟩
    · replace h := ifFd w24 h
      refine ⟨fun w26 => ?_, fun w25 => ?_⟩
      · replace h := ifFd w26 h
        refine ⟨fun w27 => ?_, fun w28 => ?_⟩
        · replace h := ifTd w27 h
          obtain rfl := Option.some.inj h
          exact hR _ L0 hO

        · replace h := ifFd w28 h
          replace hO := open_EM (pu0 hO)
          refine ⟨L0.k, ((hO.blk (.head _)).rdv rfl), ?_⟩
          obtain ⟨r29, e30, h⟩ := bindS h
          refine c87 L0.k L0.kl S0.k z1 r29 e30 _ _ _ (fr1 (pu2 hO)) (fun H31 hO => ?_)
          replace hO := un1 hO
          refine ⟨r29, rfl, ?_⟩
          replace hO := close_EM L0 S0 (pu2 (pu2 (pu0 hO)))
          obtain ⟨r32, e33, h⟩ := bindS h
          refine c102 n_ z0 L0 S0 r29 r32 e33 _ _ _ (fr1 hO) (fun H34 L35 a36 k37 C38 hs39 hO => ?_)
          replace hO := un2 hO
          refine ⟨(⟨a36, r32.2.1.nodes.length, k37, r32.2.1.root, r32.2.1.err, r32.2.1.pos⟩ : TreeT), r32.2.2, rfl, ?_⟩
          intro H40 eH40
          replace hO := own_new (l := [Value.slice none 0 0, I (0 : Int), I (0 : Int), I (0 : Int)]) hO eH40 rfl
          refine ⟨(hO.blk (.head _)).wr (Nat.le_of_ble_eq_true rfl), ?_⟩
          intro H41 eH41
          replace hO := oz0 (l' := [Value.slice a36 r32.2.1.nodes.length k37, I r32.2.1.root, I r32.2.1.err, I r32.2.1.pos]) hO eH41 rfl
          refine ⟨fun l Hc => ∃ S74 : EMS, ∃ L75 : EML, Own Hc [oEM z0 L75 S74] F ∧ (k79_1 n_ z2 (asS (nth l 0)) S74) = some r_, ?_, ?_⟩
          · refine ⟨fun w83 => ?_, fun w84 => ?_⟩
            · replace h := ifTb w83 h
              refine ⟨(⟨a36, r32.2.1.nodes.length, k37, r32.2.1.root, r32.2.1.err, r32.2.1.pos⟩ : TreeT), (hO.blk (.head _)).rowT rfl, ?_⟩
              refine ⟨(by decide), ?_⟩
              refine ⟨(by decide), ?_⟩
              obtain ⟨q85, h⟩ := ckS h
              refine ⟨q85, ?_⟩
              obtain ⟨q86, h⟩ := ckS h
              refine ⟨(by decide), q86, ?_⟩
              obtain ⟨q87, h⟩ := ckS h
              refine ⟨(by decide), q87, ?_⟩
              obtain ⟨q88, h⟩ := ckS h
              refine ⟨q88, ?_⟩
              obtain ⟨q89, h⟩ := ckS h
              obtain ⟨b90, ha_, hC_⟩ := hs39.2 q89
              subst ha_ hC_
              obtain ⟨r92, e93, h⟩ := bindS h
              refine c106 n_ b90 r32.2.1 k37 ((Int.tmod z2 (4 : Int)) - (Int.tmod z1 (4 : Int))) ((Int.tdiv z2 (4 : Int)) - (Int.tdiv z1 (4 : Int))) r92 e93 _ _ _ (fr1 (pu2 hO)) (fun H94 a95 k96 C97 hs98 hO => ?_)
              replace hO := un2 hO
              refine ⟨(⟨a95, r92.nodes.length, k96, r92.root, r92.err, r92.pos⟩ : TreeT), rfl, ?_⟩
              intro H99 eH99
              replace hO := own_new (l := [Value.slice none 0 0, I (0 : Int), I (0 : Int), I (0 : Int)]) hO eH99 rfl
              refine ⟨(hO.blk (.head _)).wr (Nat.le_of_ble_eq_true rfl), ?_⟩
              intro H100 eH100
              replace hO := oz0 (l' := [Value.slice a95 r92.nodes.length k96, I r92.root, I r92.err, I r92.pos]) hO eH100 rfl
              refine ⟨(⟨a95, r92.nodes.length, k96, r92.root, r92.err, r92.pos⟩ : TreeT), (hO.blk (.head _)).rowT rfl, ?_⟩
              obtain ⟨q101, h⟩ := ckS h
              obtain ⟨b102, ha_, hC_⟩ := hs98.2 q101
              subst ha_ hC_
              obtain ⟨r104, e105, h⟩ := bindS h
              refine c104 n_ z0 L35 r32.1 b102 r92 k96 r104 e105 _ _ _ (fr2 (pu4 (pu2 hO))) (fun H106 L107 hO => ?_)
              replace hO := un2 hO
              refine ⟨r104.2, rfl, ?_⟩
              replace hO := dr1 (dr1 (dr1 (dr1 (hO))))
              exact ⟨r104.1, L107, hO, h⟩

            · replace h := ifFb w84 h
              replace hO := dr1 (dr1 (pu1 hO))
              exact ⟨r32.1, L35, hO, h⟩


          · clear hO h
            intro H76 u77 x78 hJ
            obtain ⟨S74, L75, hO, h⟩ := hJ
            replace h : (k79_1 n_ z2 x78 S74) = some r_ := h
            unfold k79_1 at h
            replace hO := open_EM (pu0 hO)
            refine ⟨L75.k, ((hO.blk (.head _)).rdv rfl), ?_⟩
            obtain ⟨r79, e80, h⟩ := bindS h
            refine c93 n_ L75.k L75.kl S74.k z2 x78 r79 e80 _ _ _ (fr1 (pu2 hO)) (fun H81 L82 hO => ?_)
            replace hO := un1 hO
            refine ⟨r79.2, rfl, ?_⟩
            replace hO := close_EM ({ L75 with kl := L82 }) ({ S74 with k := r79.1 }) (pu2 (pu2 (pu0 hO)))
            obtain rfl := Option.some.inj h
            exact hR _ ({ L75 with kl := L82 }) hO



      · replace h := ifTd w25 h
        obtain rfl := Option.some.inj h
        exact hR _ L0 hO


    · replace h := ifTd w23 h
      obtain rfl := Option.some.inj h
      exact hR _ L0 hO


  · replace h := ifTd w21 h
    obtain rfl := Option.some.inj h
    exact hR _ L0 hO



theorem c53 (n_ : Nat) (z0 : Nat) (L0 : BML) (S0 : BMS) (z1 : Int) (z2 : Int) (r_ : BMS × Int) (h : s53 n_ S0 z1 z2 = some r_) (F : List Ent) (H : Heap) (R : Value → Heap → Prop)
    (hO : Own H [oBM z0 L0 S0] F)
    (hR : ∀ (H' : Heap) (L0' : BML), Own H' [oBM z0 (L0') r_.1] F → R (I r_.2) H') :
    HCalls Tryz.prog 53 #[Value.pointer (some ⟨z0, 0, none⟩), I z1, I z2] H R := by
  refine vc53 z0 z1 z2 H R ?_
  unfold s53 at h
  obtain ⟨r21, e22, h⟩ := bindS h
  refine c73 n_ z0 L0 S0 r21 e22 _ _ _ (fr1 hO) (fun H23 b24 hO => ?_)
  replace hO := un2 hO
  refine ⟨(some ⟨b24, 0, none⟩), 24, 24, rfl, ?_⟩
  replace hO := open_BM (pu0 hO)
  refine ⟨L0.e, ((hO.blk (.head _)).rdv rfl), ?_⟩
  obtain ⟨r26, e27, h⟩ := bindS h
  refine c79 n_ L0.e L0.el S0.e z1 z2 r26 e27 _ _ _ (fr1 (pu1 hO)) (fun H28 L29 hO => ?_)
  replace hO := un1 hO
  refine ⟨r26.2, rfl, ?_⟩
  refine ⟨fun w30 => ?_, fun w31 => ?_⟩
  · replace h := ifTd w30 h
    replace hO := close_BM ({ L0 with el := L29 }) ({ S0 with e := r26.1 }) (pu3 (pu2 (pu3 (pu3 hO))))
    obtain ⟨r32, e33, h⟩ := bindS h
    refine c75 z0 ({ L0 with el := L29 }) ({ S0 with e := r26.1 }) b24 r21 r32 e33 _ _ _ (fr2 hO) (fun H34 L35 hO => ?_)
    replace hO := un1 hO
    obtain rfl := Option.some.inj h
    exact hR _ L35 hO

  · replace h := ifFd w31 h
    replace hO := close_BM ({ L0 with el := L29 }) ({ S0 with e := r26.1 }) (pu3 (pu2 (pu3 (pu3 hO))))
    obtain rfl := Option.some.inj h
    exact hR _ ({ L0 with el := L29 }) (dr1 (hO))



theorem sh_len {V : List Value} {i : Nat} (h : i + 1 ≤ V.length) : (sh V i).length = V.length := by
  simp [sh]; omega
theorem sh_get {V : List Value} {i : Nat} (h : i + 1 < V.length) : (sh V i)[i + 1]? = V[i + 1]? := by
  unfold sh
  rw [List.getElem?_append_right (by simp; omega)]
  simp only [List.length_take, List.length_tail, List.getElem?_drop]
  congr 1
  omega
theorem sh_set {V : List Value} {i : Nat} {v : Value} (h : V[i + 1]? = some v) : (sh V i).set i v = sh V (i + 1) := by
  have hl : i + 1 < V.length := getLt h
  apply List.ext_getElem?
  intro j
  rw [List.getElem?_set]
  have h1 := sh_len (V := V) (i := i) (by omega)
  have h2 := sh_len (V := V) (i := i + 1) (by omega)
  by_cases hj : i = j
  · subst hj
    rw [if_pos rfl, if_pos (by omega)]
    unfold sh
    rw [List.getElem?_append_left (by simp; omega), List.getElem?_take, if_pos (by omega), List.getElem?_tail, h]
  · rw [if_neg hj]
    unfold sh
    rcases Nat.lt_or_ge j i with hji | hji
    · rw [List.getElem?_append_left (by simp; omega), List.getElem?_append_left (by simp; omega), List.getElem?_take, List.getElem?_take, if_pos hji, if_pos (by omega)]
    · rw [List.getElem?_append_right (by simp; omega), List.getElem?_append_right (by simp; omega)]
      simp only [List.length_take, List.length_tail, List.getElem?_drop]
      congr 1
      omega
theorem s54_past {S : DS} {a : List (List UInt8)} {r : DS} (h : s54 S a = some r) : ∃ P, r.past = P ++ [a] := by
  unfold s54 at h
  obtain ⟨_, h⟩ := ckS h
  obtain rfl := Option.some.inj h
  exact ⟨_, rfl⟩
theorem c54 (z0 : Nat) (L0 : DL) (S0 : DS) (b1 : Nat) (a1 : List (List UInt8)) (r_ : DS) (h : s54 S0 a1 = some r_) (F : List Ent) (H : Heap) (R : Value → Heap → Prop)
    (hO : Own H [oD z0 L0 S0, cellE 9 b1 (List.flatMap encS a1)] F)
    (hR : ∀ (H' : Heap) (L0' : DL), L0'.past.bs.getLast? = some b1 → Own H' [oD z0 L0' r_] F → R (.tuple #[]) H') :
    HCalls Tryz.prog 54 #[Value.pointer (some ⟨z0, 0, none⟩), Value.slice (some ⟨b1, 0, none⟩) 24 24] H R := by
  refine vc54 z0 (some ⟨b1, 0, none⟩) 24 24 H R ?_
  unfold s54 at h
  obtain ⟨hm, h⟩ := ckS h
  obtain rfl := Option.some.inj h
  replace hO := open_D hO
  -- own, past, next, was
  refine ⟨fun l Hc => ∃ LP, Own Hc [cellE 34 z0 [str S0.text, str S0.saved, .bool S0.fresh, Gsl LP (if 6 ≤ S0.past.length then S0.past.tail else S0.past), Gsl L0.next S0.next, .bool S0.quiet], Gch LP (if 6 ≤ S0.past.length then S0.past.tail else S0.past), Gch L0.next S0.next, cellE 9 b1 (List.flatMap encS a1)] F, ?_, ?_⟩
  · obtain ⟨a, k, C, hv, hb, hg, hX⟩ := G_open (pu1 hO)
    refine ⟨a, S0.past.length, k, (hO.blk (.head _)).rdv (by rw [← hv]; rfl), fun w => ?_, fun w => ?_⟩
    · have w := of_decide_eq_true w
      have w' : 6 ≤ S0.past.length := by omega
      rw [if_pos w']
      rw [hv] at hX
      obtain ⟨hg1, hg2⟩ := hg
      rcases hg2 with ⟨_, _, h0, _⟩ | ⟨b, x, rfl, hk, rfl⟩
      · have : L0.past.bs = [] := by simpa using h0
        rw [this] at hb
        simp at hb
        omega
      rw [flatV1] at hX
      -- C, snaps, own, next, was
      have hVl : (L0.past.bs.map snapV).length = S0.past.length := by simp [hb]
      refine ⟨fun l Hc => ∃ i : Nat, l = [I ((i : Int) + 1)] ∧ i + 1 ≤ S0.past.length ∧ Own Hc [cellE 79 b (L0.past.pre ++ sh (L0.past.bs.map snapV) i ++ x), snaps L0.past.bs S0.past, cellE 34 z0 [str S0.text, str S0.saved, .bool S0.fresh, .slice (some ⟨b, L0.past.pre.length, none⟩) S0.past.length k, Gsl L0.next S0.next, .bool S0.quiet], Gch L0.next S0.next, cellE 9 b1 (List.flatMap encS a1)] F,
        fun l Hc => (S0.past.length - asI (nth l 0)).toNat, ⟨0, rfl, by omega, by simpa [sh] using hX⟩, ?_⟩
      intro H7 u8 n9 hJ
      obtain ⟨i, hl, hi, hY⟩ := hJ
      simp only [List.cons.injEq, Value.int.injEq, true_and, and_true] at hl
      subst hl
      refine ⟨_, _, _, (hY.blk (.tail _ (.tail _ (.head _)))).rdv rfl, fun w1 => ?_, fun w1 => ?_⟩
      · have w1 := of_decide_eq_true w1
        have hi1 : i + 1 < (L0.past.bs.map snapV).length := by omega
        obtain ⟨v, hv1⟩ : ∃ v, (L0.past.bs.map snapV)[i + 1]? = some v := ⟨_, List.getElem?_eq_getElem hi1⟩
        obtain ⟨bv, rfl⟩ : ∃ bv, v = snapV bv := by
          rw [List.getElem?_map] at hv1
          cases hh : L0.past.bs[i + 1]? with
          | none => rw [hh] at hv1; cases hv1
          | some bv => rw [hh] at hv1; exact ⟨bv, (Option.some.inj hv1).symm⟩
        have hsl := sh_len (V := L0.past.bs.map snapV) (i := i) (by omega)
        refine ⟨_, _, _, (hY.blk (.tail _ (.tail _ (.head _)))).rdv rfl, by constructor <;> omega, _, _, _, (hY.blk (.tail _ (.tail _ (.head _)))).rdv rfl, _, _, rfl, by omega, by omega, rfl, some ⟨bv, 0, none⟩, 24, 24, ?_, _, _, rfl, by omega, by omega, rfl, ?_, ?_⟩
        · refine (hY.blk (.head _)).rdv ?_
          rw [List.append_assoc, List.getElem?_append_right (by omega), show L0.past.pre.length + ((i : Int) + 1).toNat * 1 - L0.past.pre.length = i + 1 by omega, List.getElem?_append_left (by omega), sh_get hi1]
          exact hv1
        · exact (hY.blk (.head _)).wr (by simp only [List.length_append, hsl]; omega)
        · intro H26 e26
          have hZ := os0 (l' := L0.past.pre ++ sh (L0.past.bs.map snapV) (i + 1) ++ x) hY e26 (by
            rw [show L0.past.pre.length + ((i : Int) + 1 - 1).toNat * 1 = L0.past.pre.length + i by omega, List.append_assoc, List.set_append_right _ _ (by omega), Nat.add_sub_cancel_left, List.set_append_left _ _ (by omega), ← sh_set hv1, List.append_assoc]
            rfl)
          refine ⟨_, .inl ⟨by constructor <;> omega, rfl⟩, ⟨i + 1, rfl, by omega, hZ⟩, ?_⟩
          show (S0.past.length - ((i : Int) + 1 + 1)).toNat < (S0.past.length - ((i : Int) + 1)).toNat
          omega
      · have w1 := of_decide_eq_false w1
        obtain rfl : i = S0.past.length - 1 := by omega
        refine ⟨_, _, _, (hY.blk (.tail _ (.tail _ (.head _)))).rdv rfl, _, _, _, (hY.blk (.tail _ (.tail _ (.head _)))).rdv rfl, by constructor <;> omega, by omega, by omega, (hY.blk (.tail _ (.tail _ (.head _)))).wr (Nat.le_of_ble_eq_true rfl), fun H34 e34 => ?_⟩
        have hZ := os2 (l' := [str S0.text, str S0.saved, .bool S0.fresh, .slice (some ⟨b, L0.past.pre.length, none⟩) (S0.past.length - 1) k, Gsl L0.next S0.next, .bool S0.quiet]) hY e34 (by
          rw [show ((S0.past.length : Int) - 1).toNat = S0.past.length - 1 by omega]; rfl)
        obtain ⟨b0, bs, hbs⟩ : ∃ b0 bs, L0.past.bs = b0 :: bs := by
          cases hh : L0.past.bs with
          | nil => rw [hh] at hb; simp at hb; omega
          | cons b0 bs => exact ⟨b0, bs, rfl⟩
        obtain ⟨s0, S, hS⟩ : ∃ s0 S, S0.past = s0 :: S := by
          cases hh : S0.past with
          | nil => rw [hh] at w'; simp at w'
          | cons s0 S => exact ⟨s0, S, rfl⟩
        have hlen : S0.past.length = S.length + 1 := by rw [hS]; rfl
        have hlb : bs.length = S.length := by rw [hbs] at hb; simp at hb; omega
        obtain ⟨vl, hvl⟩ : ∃ vl, (L0.past.bs.map snapV).drop S.length = [vl] := by
          apply List.length_eq_one_iff.1
          rw [List.length_drop, hVl, hlen]
          omega
        have hsh : sh (L0.past.bs.map snapV) (S0.past.length - 1) = bs.map snapV ++ [vl] := by
          unfold sh
          rw [hlen, Nat.add_sub_cancel, hvl, hbs]
          simp only [List.map_cons, List.tail_cons]
          rw [List.take_of_length_le (by simp; omega)]
        rw [hsh] at hZ
        have hsn : snaps L0.past.bs S0.past = cellE 9 b0 (s0.flatMap encS) ++ snaps bs S := by rw [hbs, hS]; simp [snaps]
        rw [hsn] at hZ
        have hW : Own H34 (cellE 79 b (L0.past.pre ++ bs.map snapV ++ ([vl] ++ x)) :: snaps bs S :: [cellE 34 z0 [str S0.text, str S0.saved, .bool S0.fresh, .slice (some ⟨b, L0.past.pre.length, none⟩) (S0.past.length - 1) k, Gsl L0.next S0.next, .bool S0.quiet], Gch L0.next S0.next, cellE 9 b1 (List.flatMap encS a1)]) F := by
          have h9 : Own H34 (cellE 79 b (L0.past.pre ++ bs.map snapV ++ ([vl] ++ x)) :: cellE 9 b0 (s0.flatMap encS) :: snaps bs S :: [cellE 34 z0 [str S0.text, str S0.saved, .bool S0.fresh, .slice (some ⟨b, L0.past.pre.length, none⟩) (S0.past.length - 1) k, Gsl L0.next S0.next, .bool S0.quiet], Gch L0.next S0.next, cellE 9 b1 (List.flatMap encS a1)]) F := hZ.cast (by simp)
          exact dr1 h9
        obtain ⟨LP, h5, _, h6⟩ := G_close (a := some ⟨b, L0.past.pre.length, none⟩) (m := S0.past.length - 1) (k := k) (pre := L0.past.pre) (bs := bs) ⟨by simp; omega, .inr ⟨b, [vl] ++ x, rfl, by rw [hk]; simp; omega, by rw [flatV1]⟩⟩ hlb hW
        refine ⟨LP, ?_⟩
        rw [show S0.past.tail = S by rw [hS]; rfl, h5]
        exact pu1 h6
    · have w := of_decide_eq_false w
      have w' : ¬ 6 ≤ S0.past.length := by omega
      rw [if_neg w']
      exact ⟨L0.past, hO⟩
  · intro H35 u36 hM
    obtain ⟨LP, hM⟩ := hM
    have hpl : (if 6 ≤ S0.past.length then S0.past.tail else S0.past).length + 1 ≤ 1000 := by split <;> simp <;> omega
    generalize (if 6 ≤ S0.past.length then S0.past.tail else S0.past) = past1 at hM hpl hR
    obtain ⟨a, k, hv⟩ := Gsl_val (pu1 hM)
    refine ⟨a, past1.length, k, (hM.blk (.head _)).rdv (by rw [← hv]; rfl), fun H40 e40 => ?_⟩
    refine G_push (Q := q54 z0 R) (pu2 (pu3 hM)) hv hpl e40 ?_
    intro L' a' k' H' h1 h2 hlast
    refine ⟨(h2.blk (.tail _ (.head _))).wr (Nat.le_of_ble_eq_true rfl), fun H48 e48 => ?_⟩
    have h3 := os1 (l' := [str S0.text, str S0.saved, .bool S0.fresh, Gsl L' (past1 ++ [a1]), Gsl L0.next S0.next, .bool S0.quiet]) h2 e48 (by rw [h1]; rfl)
    refine ⟨(h3.blk (.tail _ (.head _))).wr (Nat.le_of_ble_eq_true rfl), fun H49 e49 => ?_⟩
    have h4 := os1 (l' := [str S0.text, str S0.saved, .bool false, Gsl L' (past1 ++ [a1]), Gsl L0.next S0.next, .bool S0.quiet]) h3 e49 rfl
    exact hR _ ⟨L', L0.next⟩ hlast (close_D ⟨L', L0.next⟩ { S0 with past := past1 ++ [a1], fresh := false } (pu1 h4))

theorem c55 (n_ : Nat) (z0 : Nat) (L0 : BL) (S0 : BS) (b1 : Nat) (a1 : List (List UInt8)) (m1 c1 : Nat) (z2 : Int) (z3 : List UInt8) (r_ : Bool) (h : s55 n_ S0 a1 m1 z2 z3 = some r_) (F : List Ent) (H : Heap) (R : Value → Heap → Prop)
    (hO : Own H [oB z0 L0 S0, cellE 9 b1 (List.flatMap encS a1)] F)
    (hR : ∀ (H' : Heap) , Own H' [oB z0 L0 S0, cellE 9 b1 (List.flatMap encS a1)] F → R (.bool r_) H') :
    HCalls Tryz.prog 55 #[Value.pointer (some ⟨z0, 0, none⟩), Value.slice (some ⟨b1, 0, none⟩) m1 c1, I z2, str z3] H R := by
  refine vc55 z0 (some ⟨b1, 0, none⟩) m1 c1 z2 z3 H R ?_
  unfold s55 at h
  refine ⟨fun l Hc => ∃ m : Nat, Own Hc [oB z0 L0 S0, cellE 9 b1 (List.flatMap encS a1)] F ∧ (l55_1 n_ S0 a1 m1 z2 z3 m (asI (nth l 0))) = some r_, fun l Hc => Classical.epsilon <| lsp fun m => Own Hc [oB z0 L0 S0, cellE 9 b1 (List.flatMap encS a1)] F ∧ (l55_1 n_ S0 a1 m1 z2 z3 m (asI (nth l 0))) = some r_, ?_, ?_⟩
  · exact ⟨n_, hO, h⟩
  · clear hO h
    intro H21 u22 x23 hJ
    obtain ⟨m42, hm25, hJ⟩ := lst_get hJ
    obtain ⟨hO, h⟩ := hJ
    rcases m42 with _ | k41
    · exact absurd h (by simp [l55_1, asI, asB, asC, asS])
    obtain ⟨rec24, hrec24, h⟩ : ∃ f_, f_ = l55_1 n_ S0 a1 m1 z2 z3 k41 ∧ (l55_1_st n_ S0 a1 m1 z2 z3 f_ x23) = some r_ := ⟨_, rfl, h⟩
    unfold l55_1_st at h
    refine ⟨fun w26 => ?_, fun w27 => ?_⟩
    · replace h := ifTd w26 h
      obtain ⟨x28, g29, h⟩ := getS h
      refine ⟨_, _, rfl, g29.1, g29.2.1, rfl, ?_⟩
      refine ⟨x28, ((hO.arr (.tail _ (.head _))).rd (i := Int.toNat x23) (j := 0) lenStr g29.2.2 (by decide) (zo0 _) rfl), ?_⟩
      refine ⟨fun l Hc => Own Hc [oB z0 L0 S0, cellE 9 b1 (List.flatMap encS a1)] F ∧ (k55_0 S0 x23 rec24 (asS (nth l 0))) = some r_, ?_, ?_⟩
      · refine ⟨fun w39 => ?_, fun w40 => ?_⟩
        · replace h := ifTd w39 h
          exact ⟨hO, h⟩

        · replace h := ifFd w40 h
          exact ⟨hO, h⟩


      · clear hO h
        intro H30 u31 x32 hJ
        obtain ⟨hO, h⟩ := hJ
        replace h : (k55_0 S0 x23 rec24 x32) = some r_ := h
        unfold k55_0 at h
        obtain ⟨r33, e34, h⟩ := bindS h
        refine c33 z0 L0 S0 x23 r33 e34 _ _ _ (fr1 hO) (fun H35 hO => ?_)
        replace hO := un1 hO
        refine ⟨r33, rfl, ?_⟩
        refine ⟨fun w36 => ?_, fun w37 => ?_⟩
        · replace w36 := bnotT w36
          replace h := ifFb w36 h
          obtain rfl := Option.some.inj h
          exact hR _ hO

        · replace w37 := bnotF w37
          replace h := ifTb w37 h
          obtain ⟨q38, h⟩ := ckS h
          refine ⟨_, .inl ⟨q38, rfl⟩, ?_⟩
          subst hrec24
          exact lst_step hm25 ⟨hO, h⟩



    · replace h := ifFd w27 h
      obtain rfl := Option.some.inj h
      exact hR _ hO




theorem c27 (n_ : Nat) (z0 : Nat) (L0 : BL) (S0 : BS) (z1 : Nat) (L1 : BML) (S1 : BMS) (z2 : Nat) (L2 : DL) (S2 : DS) (z3 : OpT) (z4 : List UInt8) (r_ : BS × BMS × DS × Bool) (h : s27 n_ S0 S1 S2 z3 z4 = some r_) (F : List Ent) (H : Heap) (R : Value → Heap → Prop)
    (hO : Own H [oB z0 L0 S0, oBM z1 L1 S1, oD z2 L2 S2] F)
    (hR : ∀ (H' : Heap) (L1' : BML) (L2' : DL), Own H' [oB z0 L0 r_.1, oBM z1 (L1') r_.2.1, oD z2 (L2') r_.2.2.1] F → R (.bool r_.2.2.2) H') :
    HCalls Tryz.prog 27 #[Value.pointer (some ⟨z0, 0, none⟩), Value.pointer (some ⟨z1, 0, none⟩), Value.pointer (some ⟨z2, 0, none⟩), Value.agg ⟨encOp z3⟩, str z4] H R := by
  refine vc27 z0 z1 z2 z3 z4 H R ?_
  unfold s27 at h
  intro H21 eH21
  replace hO := own_new (l := encOp z3) hO eH21 rfl
  obtain ⟨r22, e23, h⟩ := bindS h
  refine c47 n_ z1 L1 S1 r22 e23 _ _ _ (fr1 (pu2 hO)) (fun H24 b25 hO => ?_)
  replace hO := un2 hO
  refine ⟨(some ⟨b25, 0, none⟩), 24, 24, rfl, ?_⟩
  refine ⟨fun l Hc => ∃ S97 : BMS, ∃ S99 : BS, ∃ L98 : BML, Own Hc [oBM z1 L98 S97, cellE 9 b25 (List.flatMap encS r22), cellE 38 H.size (encOp z3), oB z0 L0 S99, oD z2 L2 S2] F ∧ (k27_2 n_ S2 z3 z4 r22 (asI (nth l 0)) (asI (nth l 1)) S97 S99) = some r_, ?_, ?_⟩
  · refine ⟨z3.kind, ((hO.blk (.tail _ (.tail _ (.head _)))).rdv rfl), ?_⟩
    refine ⟨fun w125 => ?_, fun w126 => ?_⟩
    · replace h := ifTd w125 h
      refine ⟨z3.a, ((hO.blk (.tail _ (.tail _ (.head _)))).rdv rfl), ?_⟩
      obtain ⟨r127, e128, h⟩ := bindS h
      refine c48 n_ z0 L0 S0 z3.a z4 r127 e128 _ _ _ (fr1 (pu3 hO)) (fun H129 hO => ?_)
      replace hO := un1 hO
      refine ⟨r127.2, rfl, ?_⟩
      refine ⟨z3.a, ((hO.blk (.tail _ (.tail _ (.tail _ (.head _))))).rdv rfl), ?_⟩
      obtain ⟨r130, e131, h⟩ := bindS h
      refine c49 n_ z1 L1 S1 z3.a z4 r130 e131 _ _ _ (fr1 (pu1 hO)) (fun H132 L133 hO => ?_)
      replace hO := un1 hO
      refine ⟨r130.2, rfl, ?_⟩
      replace hO := pu4 (pu4 (pu4 (pu2 (pu4 hO))))
      exact ⟨r130.1, r127.1, L133, hO, h⟩

    · replace h := ifFd w126 h
      refine ⟨fun w134 => ?_, fun w135 => ?_⟩
      · replace h := ifTd w134 h
        refine ⟨z3.a, ((hO.blk (.tail _ (.tail _ (.head _)))).rdv rfl), ?_⟩
        refine ⟨z3.b, ((hO.blk (.tail _ (.tail _ (.head _)))).rdv rfl), ?_⟩
        obtain ⟨r136, e137, h⟩ := bindS h
        refine c50 n_ z0 L0 S0 z3.a z3.b r136 e137 _ _ _ (fr1 (pu3 hO)) (fun H138 hO => ?_)
        replace hO := un1 hO
        refine ⟨r136.2, rfl, ?_⟩
        refine ⟨z3.a, ((hO.blk (.tail _ (.tail _ (.tail _ (.head _))))).rdv rfl), ?_⟩
        refine ⟨z3.b, ((hO.blk (.tail _ (.tail _ (.tail _ (.head _))))).rdv rfl), ?_⟩
        obtain ⟨r139, e140, h⟩ := bindS h
        refine c51 n_ z1 L1 S1 z3.a z3.b r139 e140 _ _ _ (fr1 (pu1 hO)) (fun H141 L142 hO => ?_)
        replace hO := un1 hO
        refine ⟨r139.2, rfl, ?_⟩
        replace hO := pu4 (pu4 (pu4 (pu2 (pu4 hO))))
        exact ⟨r139.1, r136.1, L142, hO, h⟩

      · replace h := ifFd w135 h
        refine ⟨fun w143 => ?_, fun w144 => ?_⟩
        · replace h := ifTd w143 h
          refine ⟨z3.a, ((hO.blk (.tail _ (.tail _ (.head _)))).rdv rfl), ?_⟩
          refine ⟨z3.b, ((hO.blk (.tail _ (.tail _ (.head _)))).rdv rfl), ?_⟩
          obtain ⟨r145, e146, h⟩ := bindS h
          refine c52 n_ z0 L0 S0 z3.a z3.b r145 e146 _ _ _ (fr1 (pu3 hO)) (fun H147 hO => ?_)
          replace hO := un1 hO
          refine ⟨r145.2, rfl, ?_⟩
          refine ⟨z3.a, ((hO.blk (.tail _ (.tail _ (.tail _ (.head _))))).rdv rfl), ?_⟩
          refine ⟨z3.b, ((hO.blk (.tail _ (.tail _ (.tail _ (.head _))))).rdv rfl), ?_⟩
          obtain ⟨r148, e149, h⟩ := bindS h
          refine c53 n_ z1 L1 S1 z3.a z3.b r148 e149 _ _ _ (fr1 (pu1 hO)) (fun H150 L151 hO => ?_)
          replace hO := un1 hO
          refine ⟨r148.2, rfl, ?_⟩
          replace hO := pu4 (pu4 (pu4 (pu2 (pu4 hO))))
          exact ⟨r148.1, r145.1, L151, hO, h⟩

        · replace h := ifFd w144 h
          exact ⟨S1, S0, L1, hO, h⟩




  · clear hO h
    intro H100 u101 x102 x103 hJ
    obtain ⟨S97, S99, L98, hO, h⟩ := hJ
    replace h : (k27_2 n_ S2 z3 z4 r22 x102 x103 S97 S99) = some r_ := h
    unfold k27_2 at h
    refine ⟨fun w104 => ?_, fun w105 => ?_⟩
    · replace w104 := bnotT w104
      replace h := ifFd w104 h
      obtain rfl := Option.some.inj h
      exact hR _ L98 L2 (dr3 (dr3 (pu4 (pu1 (pu4 hO)))))

    · replace w105 := bnotF w105
      replace h := ifTd w105 h
      refine ⟨fun w106 => ?_, fun w107 => ?_⟩
      · replace w106 := bnotT w106
        replace h := ifFd w106 h
        obtain rfl := Option.some.inj h
        exact hR _ L98 L2 (dr3 (dr3 (pu4 (pu1 (pu4 hO)))))

      · replace w107 := bnotF w107
        replace h := ifTd w107 h
        obtain ⟨r108, e109, h⟩ := bindS h
        refine c54 z2 L2 S2 b25 r22 r108 e109 _ _ _ (fr2 (pu4 (pu1 hO))) (fun H110 L111 hl112 hO => ?_)
        replace hO := un1 hO
        replace hO := open_D (pu0 hO)
        refine ⟨(hO.blk (.head _)).wr (Nat.le_of_ble_eq_true rfl), ?_⟩
        intro H113 eH113
        replace hO := os0 (l' := [str r108.text, str r108.saved, Value.bool r108.fresh, (Gsl L111.past r108.past), Value.slice none 0 0, Value.bool r108.quiet]) hO eH113 rfl
        refine ⟨z3.kind, ((hO.blk (.tail _ (.tail _ (.tail _ (.tail _ (.head _)))))).rdv rfl), ?_⟩
        refine ⟨fun w114 => ?_, fun w115 => ?_⟩
        · replace h := ifTd w114 h
          refine ⟨r108.quiet, ((hO.blk (.head _)).rdv rfl), ?_⟩
          refine ⟨fun w116 => ?_, fun w117 => ?_⟩
          · replace w116 := bnotT w116
            replace h := ifFb w116 h
            refine ⟨z3.a, ((hO.blk (.tail _ (.tail _ (.tail _ (.tail _ (.head _)))))).rdv rfl), ?_⟩
            obtain ⟨P118, hP119⟩ := s54_past e109
            replace hO := pu1 hO
            rw [hP119] at hO
            obtain ⟨X120, hO, hb121⟩ := G_view hl112 hO
            obtain ⟨r122, e123, h⟩ := bindS h
            refine c55 n_ z0 L0 S99 b25 r22 24 24 z3.a z4 r122 e123 _ _ _ (fr2 (pu6 (pu1 hO))) (fun H124 hO => ?_)
            replace hO := un2 hO
            refine ⟨r122, rfl, ?_⟩
            replace hO := hb121 _ _ _ (pu2 (pu1 hO))
            rw [← hP119] at hO
            replace hO := own_nil hO
            replace hO := close_D ({ L111 with next := SnL.nil }) ({ r108 with next := [] }) (pu3 (pu1 (pu0 hO)))
            obtain rfl := Option.some.inj h
            exact hR _ L98 ({ L111 with next := SnL.nil }) (dr3 (dr3 (pu2 (pu3 (pu0 hO)))))

          · replace w117 := bnotF w117
            replace h := ifTb w117 h
            replace hO := own_nil hO
            replace hO := close_D ({ L111 with next := SnL.nil }) ({ r108 with next := [] }) (pu2 (pu2 (pu0 hO)))
            obtain rfl := Option.some.inj h
            exact hR _ L98 ({ L111 with next := SnL.nil }) (dr3 (dr3 (pu4 (pu2 (pu0 hO)))))


        · replace h := ifFd w115 h
          replace hO := own_nil hO
          replace hO := close_D ({ L111 with next := SnL.nil }) ({ r108 with next := [] }) (pu2 (pu2 (pu0 hO)))
          obtain rfl := Option.some.inj h
          exact hR _ L98 ({ L111 with next := SnL.nil }) (dr3 (dr3 (pu4 (pu2 (pu0 hO)))))






theorem c80 (n_ : Nat) (z0 : Nat) (L0 : BL) (S0 : BS) (z1 : Int) (z2 : Int) (r_ : BS) (h : s80 n_ S0 z1 z2 = some r_) (F : List Ent) (H : Heap) (R : Value → Heap → Prop)
    (hO : Own H [oB z0 L0 S0] F)
    (hR : ∀ (H' : Heap) , Own H' [oB z0 L0 r_] F → R (.tuple #[]) H') :
    HCalls Tryz.prog 80 #[Value.pointer (some ⟨z0, 0, none⟩), I z1, I z2] H R := by
  refine vc80 z0 z1 z2 H R ?_
  unfold s80 at h
  replace hO := open_B (pu0 hO)
  refine ⟨(some ⟨L0.turned, 0, none⟩), 6, 6, ((hO.blk (.head _)).rdv rfl), ?_⟩
  obtain ⟨x21, g22, h⟩ := getS h
  refine ⟨_, _, rfl, g22.1, g22.2.1, rfl, ?_⟩
  refine ⟨x21, ((hO.arr (.tail _ (.tail _ (.tail _ (.head _))))).rd (i := Int.toNat z1) (j := 0) lenU g22.2.2 (by decide) (zo0 _) rfl), ?_⟩
  replace hO := close_B L0 S0 (hO)
  refine ⟨fun l Hc => ∃ m : Nat, ∃ S50 : BS, Own Hc [oB z0 L0 S50] F ∧ (l80_3 n_ z1 z2 x21 m (asI (nth l 0)) S50) = some r_, fun l Hc => Classical.epsilon <| lsp fun m => ∃ S50 : BS, Own Hc [oB z0 L0 S50] F ∧ (l80_3 n_ z1 z2 x21 m (asI (nth l 0)) S50) = some r_, ?_, ?_⟩
  · exact ⟨n_, S0, hO, h⟩
  · clear hO h
    intro H51 u52 x53 hJ
    obtain ⟨m92, hm55, hJ⟩ := lst_get hJ
    obtain ⟨S50, hO, h⟩ := hJ
    rcases m92 with _ | k91
    · exact absurd h (by simp [l80_3, asI, asB, asC, asS])
    obtain ⟨rec54, hrec54, h⟩ : ∃ f_, f_ = l80_3 n_ z1 z2 x21 k91 ∧ (l80_3_st n_ z1 z2 x21 f_ x53 S50) = some r_ := ⟨_, rfl, h⟩
    unfold l80_3_st at h
    refine ⟨fun w56 => ?_, fun w57 => ?_⟩
    · replace h := ifTd w56 h
      refine ⟨fun l Hc => ∃ S74 : BS, Own Hc [oB z0 L0 S74] F ∧ (k80_2 x53 rec54 S74) = some r_, ?_, ?_⟩
      · obtain ⟨q78, h⟩ := ckS h
        refine ⟨q78, ?_⟩
        obtain ⟨q79, h⟩ := ckS h
        refine ⟨x21, rfl, q79, ?_⟩
        refine ⟨(x21 >>> Int.toNat x53), (1 : BitVec 32), rfl, rfl, ?_⟩
        refine ⟨fun w80 => ?_, fun w81 => ?_⟩
        · replace h := ifTd w80 h
          obtain ⟨r82, e83, h⟩ := bindS h
          refine c69 z1 x53 r82 e83 _ _ _ (fr0 hO) (fun H84 hO => ?_)
          replace hO := un0 hO
          refine ⟨r82, rfl, ?_⟩
          replace hO := open_B (pu0 hO)
          refine ⟨L0.e, ((hO.blk (.head _)).rdv rfl), ?_⟩
          refine ⟨(some ⟨L0.pool, 0, none⟩), 288, 288, ((hO.blk (.head _)).rdv rfl), ?_⟩
          obtain ⟨q85, h⟩ := ckS h
          refine ⟨_, .inl ⟨q85, rfl⟩, ?_⟩
          obtain ⟨x86, g87, h⟩ := getS h
          refine ⟨_, _, rfl, g87.1, g87.2.1, rfl, ?_⟩
          refine ⟨x86, ((hO.arr (.tail _ (.tail _ (.head _)))).rd (i := Int.toNat (r82 + z2)) (j := 0) lenStr g87.2.2 (by decide) (zo0 _) rfl), ?_⟩
          obtain ⟨r88, e89, h⟩ := bindS h
          refine c71 n_ L0.e L0.el S50.e x53 x86 r88 e89 _ _ _ (fr1 (pu1 hO)) (fun H90 hO => ?_)
          replace hO := un1 hO
          refine ⟨r88.2, rfl, ?_⟩
          replace hO := close_B L0 ({ S50 with e := r88.1 }) (pu5 (pu4 (pu5 (pu5 (pu5 (pu5 hO))))))
          exact ⟨({ S50 with e := r88.1 }), hO, h⟩

        · replace h := ifFd w81 h
          exact ⟨S50, hO, h⟩


      · clear hO h
        intro H75 u76  hJ
        obtain ⟨S74, hO, h⟩ := hJ
        replace h : (k80_2 x53 rec54 S74) = some r_ := h
        unfold k80_2 at h
        obtain ⟨q77, h⟩ := ckS h
        refine ⟨_, .inl ⟨q77, rfl⟩, ?_⟩
        subst hrec54
        exact lst_step hm55 ⟨S74, hO, h⟩


    · replace h := ifFd w57 h
      obtain rfl := Option.some.inj h
      exact hR _ hO




theorem c56 (n_ : Nat) (z0 : Nat) (L0 : BL) (S0 : BS) (r_ : BS × Int) (h : s56 n_ S0 = some r_) (F : List Ent) (H : Heap) (R : Value → Heap → Prop)
    (hO : Own H [oB z0 L0 S0] F)
    (hR : ∀ (H' : Heap) , Own H' [oB z0 L0 r_.1] F → R (I r_.2) H') :
    HCalls Tryz.prog 56 #[Value.pointer (some ⟨z0, 0, none⟩)] H R := by
  refine vc56 z0 H R ?_
  unfold s56 at h
  replace hO := open_B (pu0 hO)
  refine ⟨S0.undos, ((hO.blk (.head _)).rdv rfl), ?_⟩
  refine ⟨fun w21 => ?_, fun w22 => ?_⟩
  · replace h := ifTd w21 h
    replace hO := close_B L0 S0 (hO)
    obtain rfl := Option.some.inj h
    exact hR _ hO

  · replace h := ifFd w22 h
    refine ⟨S0.undos, ((hO.blk (.head _)).rdv rfl), ?_⟩
    obtain ⟨q23, h⟩ := ckS h
    refine ⟨q23, ?_⟩
    refine ⟨(hO.blk (.head _)).wr (Nat.le_of_ble_eq_true rfl), ?_⟩
    intro H24 eH24
    replace hO := os0 (l' := [Value.pointer (some ⟨L0.e, 0, none⟩), Value.slice (some ⟨L0.pool, 0, none⟩) 288 288, Value.slice (some ⟨L0.turned, 0, none⟩) 6 6, I S0.base, I (S0.undos - (1 : Int)), I S0.redos, Value.slice (some ⟨L0.was, 0, none⟩) 24 24, Value.slice (some ⟨L0.out, 0, none⟩) 1056 1056]) hO eH24 rfl
    refine ⟨S0.redos, ((hO.blk (.head _)).rdv rfl), ?_⟩
    obtain ⟨q25, h⟩ := ckS h
    refine ⟨_, .inl ⟨q25, rfl⟩, ?_⟩
    refine ⟨(hO.blk (.head _)).wr (Nat.le_of_ble_eq_true rfl), ?_⟩
    intro H26 eH26
    replace hO := os0 (l' := [Value.pointer (some ⟨L0.e, 0, none⟩), Value.slice (some ⟨L0.pool, 0, none⟩) 288 288, Value.slice (some ⟨L0.turned, 0, none⟩) 6 6, I S0.base, I (S0.undos - (1 : Int)), I (S0.redos + (1 : Int)), Value.slice (some ⟨L0.was, 0, none⟩) 24 24, Value.slice (some ⟨L0.out, 0, none⟩) 1056 1056]) hO eH26 rfl
    refine ⟨(S0.undos - (1 : Int)), ((hO.blk (.head _)).rdv rfl), ?_⟩
    replace hO := close_B L0 ({ S0 with undos := S0.undos - (1 : Int), redos := S0.redos + (1 : Int) }) (hO)
    obtain ⟨r27, e28, h⟩ := bindS h
    refine c43 z0 L0 ({ S0 with undos := S0.undos - (1 : Int), redos := S0.redos + (1 : Int) }) (S0.undos - (1 : Int)) r27 e28 _ _ _ (fr1 hO) (fun H29 hO => ?_)
    replace hO := un1 hO
    refine ⟨r27, rfl, ?_⟩
    obtain ⟨r30, e31, h⟩ := bindS h
    refine c80 n_ z0 L0 ({ S0 with undos := S0.undos - (1 : Int), redos := S0.redos + (1 : Int) }) r27 (0 : Int) r30 e31 _ _ _ (fr1 hO) (fun H32 hO => ?_)
    replace hO := un1 hO
    obtain rfl := Option.some.inj h
    exact hR _ hO



theorem c81 (n_ : Nat) (z0 : Nat) (L0 : BML) (S0 : BMS) (b1 : Nat) (a1 : List (List UInt8)) (m1 c1 : Nat) (r_ : BMS) (h : s81 n_ S0 a1 m1 = some r_) (F : List Ent) (H : Heap) (R : Value → Heap → Prop)
    (hO : Own H [oBM z0 L0 S0, cellE 9 b1 (List.flatMap encS a1)] F)
    (hR : ∀ (H' : Heap) (L0' : BML), Own H' [oBM z0 (L0') r_, cellE 9 b1 (List.flatMap encS a1)] F → R (.tuple #[]) H') :
    HCalls Tryz.prog 81 #[Value.pointer (some ⟨z0, 0, none⟩), Value.slice (some ⟨b1, 0, none⟩) m1 c1] H R := by
  refine vc81 z0 (some ⟨b1, 0, none⟩) m1 c1 H R ?_
  unfold s81 at h
  refine ⟨fun l Hc => ∃ m : Nat, ∃ S35 : BMS, ∃ L36 : BML, Own Hc [oBM z0 L36 S35, cellE 9 b1 (List.flatMap encS a1)] F ∧ (l81_0 n_ a1 m1 m (asI (nth l 0)) S35) = some r_, fun l Hc => Classical.epsilon <| lsp fun m => ∃ S35 : BMS, ∃ L36 : BML, Own Hc [oBM z0 L36 S35, cellE 9 b1 (List.flatMap encS a1)] F ∧ (l81_0 n_ a1 m1 m (asI (nth l 0)) S35) = some r_, ?_, ?_⟩
  · exact ⟨n_, S0, L0, hO, h⟩
  · clear hO h
    intro H37 u38 x39 hJ
    obtain ⟨m52, hm41, hJ⟩ := lst_get hJ
    obtain ⟨S35, L36, hO, h⟩ := hJ
    rcases m52 with _ | k51
    · exact absurd h (by simp [l81_0, asI, asB, asC, asS])
    obtain ⟨rec40, hrec40, h⟩ : ∃ f_, f_ = l81_0 n_ a1 m1 k51 ∧ (l81_0_st n_ a1 m1 f_ x39 S35) = some r_ := ⟨_, rfl, h⟩
    unfold l81_0_st at h
    refine ⟨fun w42 => ?_, fun w43 => ?_⟩
    · replace h := ifTd w42 h
      replace hO := open_BM (pu0 hO)
      refine ⟨L36.e, ((hO.blk (.head _)).rdv rfl), ?_⟩
      obtain ⟨x44, g45, h⟩ := getS h
      refine ⟨_, _, rfl, g45.1, g45.2.1, rfl, ?_⟩
      refine ⟨x44, ((hO.arr (.tail _ (.tail _ (.tail _ (.tail _ (.head _)))))).rd (i := Int.toNat x39) (j := 0) lenStr g45.2.2 (by decide) (zo0 _) rfl), ?_⟩
      obtain ⟨r46, e47, h⟩ := bindS h
      refine c74 n_ L36.e L36.el S35.e x39 x44 r46 e47 _ _ _ (fr1 (pu1 hO)) (fun H48 L49 hO => ?_)
      replace hO := un1 hO
      refine ⟨r46.2, rfl, ?_⟩
      obtain ⟨q50, h⟩ := ckS h
      refine ⟨_, .inl ⟨q50, rfl⟩, ?_⟩
      replace hO := close_BM ({ L36 with el := L49 }) ({ S35 with e := r46.1 }) (pu3 (pu2 (pu3 (pu3 hO))))
      subst hrec40
      exact lst_step hm41 ⟨({ S35 with e := r46.1 }), ({ L36 with el := L49 }), hO, h⟩

    · replace h := ifFd w43 h
      obtain rfl := Option.some.inj h
      exact hR _ L36 hO



theorem c81x (n_ : Nat) (z0 : Nat) (L0 : BXL) (S0 : BXS) (b1 : Nat) (a1 : List (List UInt8)) (m1 c1 : Nat) (r_ : BXS) (h : s81x n_ S0 a1 m1 = some r_) (F : List Ent) (H : Heap) (R : Value → Heap → Prop)
    (hO : Own H [oBX z0 L0 S0, cellE 9 b1 (List.flatMap encS a1)] F)
    (hR : ∀ (H' : Heap) (L0' : BXL), Own H' [oBX z0 (L0') r_, cellE 9 b1 (List.flatMap encS a1)] F → R (.tuple #[]) H') :
    HCalls Tryz.prog 81 #[Value.pointer (some ⟨z0, 0, none⟩), Value.slice (some ⟨b1, 0, none⟩) m1 c1] H R := by
  refine vc81 z0 (some ⟨b1, 0, none⟩) m1 c1 H R ?_
  unfold s81x at h
  refine ⟨fun l Hc => ∃ m : Nat, ∃ S35 : BXS, ∃ L36 : BXL, Own Hc [oBX z0 L36 S35, cellE 9 b1 (List.flatMap encS a1)] F ∧ (l81x_0 n_ a1 m1 m (asI (nth l 0)) S35) = some r_, fun l Hc => Classical.epsilon <| lsp fun m => ∃ S35 : BXS, ∃ L36 : BXL, Own Hc [oBX z0 L36 S35, cellE 9 b1 (List.flatMap encS a1)] F ∧ (l81x_0 n_ a1 m1 m (asI (nth l 0)) S35) = some r_, ?_, ?_⟩
  · exact ⟨n_, S0, L0, hO, h⟩
  · clear hO h
    intro H37 u38 x39 hJ
    obtain ⟨m52, hm41, hJ⟩ := lst_get hJ
    obtain ⟨S35, L36, hO, h⟩ := hJ
    rcases m52 with _ | k51
    · exact absurd h (by simp [l81x_0, asI, asB, asC, asS])
    obtain ⟨rec40, hrec40, h⟩ : ∃ f_, f_ = l81x_0 n_ a1 m1 k51 ∧ (l81x_0_st n_ a1 m1 f_ x39 S35) = some r_ := ⟨_, rfl, h⟩
    unfold l81x_0_st at h
    refine ⟨fun w42 => ?_, fun w43 => ?_⟩
    · replace h := ifTd w42 h
      replace hO := open_BX (pu0 hO)
      refine ⟨L36.e, ((hO.blk (.head _)).rdv rfl), ?_⟩
      obtain ⟨x44, g45, h⟩ := getS h
      refine ⟨_, _, rfl, g45.1, g45.2.1, rfl, ?_⟩
      refine ⟨x44, ((hO.arr (.tail _ (.tail _ (.head _)))).rd (i := Int.toNat x39) (j := 0) lenStr g45.2.2 (by decide) (zo0 _) rfl), ?_⟩
      obtain ⟨r46, e47, h⟩ := bindS h
      refine c74 n_ L36.e L36.el S35.e x39 x44 r46 e47 _ _ _ (fr1 (pu1 hO)) (fun H48 L49 hO => ?_)
      replace hO := un1 hO
      refine ⟨r46.2, rfl, ?_⟩
      obtain ⟨q50, h⟩ := ckS h
      refine ⟨_, .inl ⟨q50, rfl⟩, ?_⟩
      replace hO := close_BX ({ L36 with el := L49 }) ({ S35 with e := r46.1 }) (pu1 (pu0 hO))
      subst hrec40
      exact lst_step hm41 ⟨({ S35 with e := r46.1 }), ({ L36 with el := L49 }), hO, h⟩

    · replace h := ifFd w43 h
      obtain rfl := Option.some.inj h
      exact hR _ L36 hO




/-! ### by hand: the model's Undo and Redo -/
theorem put_indep {n : Nat} {a : List (List UInt8)} {m : Nat} : ∀ (k : Nat) (x : Int) (e : EMS) (v w v' w' : Value) (r : BXS), l81x_0 n a m k x ⟨e, v, w⟩ = some r → r.past = v ∧ r.next = w ∧ l81x_0 n a m k x ⟨e, v', w'⟩ = some ⟨r.e, v', w'⟩ := by
  intro k
  induction k with
  | zero => intro x e v w v' w' r h; exact absurd h (by simp [l81x_0])
  | succ k ih =>
    intro x e v w v' w' r h
    replace h : l81x_0_st n a m (l81x_0 n a m k) x ⟨e, v, w⟩ = some r := h
    show _ ∧ _ ∧ l81x_0_st n a m (l81x_0 n a m k) x ⟨e, v', w'⟩ = _
    unfold l81x_0_st at h ⊢
    split at h
    · rename_i hx
      rw [if_pos hx]
      obtain ⟨y, hy, h⟩ := bindS h
      obtain ⟨q, hq, h⟩ := bindS h
      obtain ⟨hc, h⟩ := ckS h
      rw [hy]
      simp only [Option.bind_some]
      rw [hq]
      simp only [Option.bind_some]
      rw [ckT hc]
      exact ih _ _ _ _ _ _ _ h
    · rename_i hx
      rw [if_neg hx]
      obtain rfl := Option.some.inj h
      exact ⟨rfl, rfl, rfl⟩
theorem c57 (n_ : Nat) (z0 : Nat) (L0 : BML) (S0 : BMS) (r_ : BMS × Int) (h : s57 n_ S0 = some r_) (F : List Ent) (H : Heap) (R : Value → Heap → Prop)
    (hO : Own H [oBM z0 L0 S0] F)
    (hR : ∀ (H' : Heap) (L0' : BML), Own H' [oBM z0 L0' r_.1] F → R (I r_.2) H') :
    HCalls Tryz.prog 57 #[Value.pointer (some ⟨z0, 0, none⟩)] H R := by
  refine vc57 z0 H R ?_
  unfold s57 at h
  have hX := open_BM hO
  obtain ⟨a0, k0, hv0⟩ := Gsl_val (pu2 hX)
  refine ⟨a0, S0.past.length, k0, (hX.blk (.head _)).rdv (by rw [← hv0]; rfl), fun w => ?_, fun w => ?_⟩
  · have w := of_decide_eq_true w
    have hp : S0.past = [] := List.eq_nil_of_length_eq_zero (by omega)
    rw [dif_pos hp] at h
    obtain rfl := Option.some.inj h
    exact hR _ L0 hO
  · have w := of_decide_eq_false w
    have hp : ¬ S0.past = [] := fun hh => by rw [hh] at w; exact w rfl
    rw [dif_neg hp] at h
    obtain ⟨now, e1, h⟩ := bindS h
    obtain ⟨hm, h⟩ := ckS h
    obtain ⟨r, e2, h⟩ := bindS h
    obtain rfl := Option.some.inj h
    have hsp : S0.past = S0.past.dropLast ++ [S0.past.getLast hp] := (List.dropLast_concat_getLast hp).symm
    generalize S0.past.getLast hp = last at e2 hsp
    have hbd : S0.past.dropLast.length < 900 := by simp; omega
    generalize hP : S0.past.dropLast = P at hsp hR hbd
    refine c73 n_ z0 L0 S0 now e1 _ _ _ (fr1 hO) (fun H5 bN hO => ?_)
    replace hO := open_BM (un2 hO)
    rw [hsp] at hO
    refine ⟨_, _, _, rfl, ?_⟩
    -- own, e, past, next, now
    obtain ⟨a1, k1, hv1⟩ := Gsl_val (pu2 hO)
    obtain ⟨a2, k2, hv2⟩ := Gsl_val (pu3 hO)
    refine ⟨a2, S0.next.length, k2, (hO.blk (.head _)).rdv (by rw [← hv2]; rfl), ?_⟩
    intro H12 e12
    have hA : Own H5 [Gch L0.next S0.next, cellE 9 bN (List.flatMap encS now), cellE 53 z0 [Value.pointer (some ⟨L0.e, 0, none⟩), .slice a1 (P ++ [last]).length k1, .slice a2 S0.next.length k2], oEM L0.e L0.el S0.e, Gch L0.past (P ++ [last])] F := by
      rw [hv1, hv2] at hO; exact pu4 (pu4 (pu2 (pu2 (pu2 (hO)))))
    refine G_push (Q := q57 z0 R) hA hv2 (by omega) e12 ?_
    intro L' a' k' H' h1 h2 _
    refine ⟨(h2.blk (.tail _ (.head _))).wr (Nat.le_of_ble_eq_true rfl), fun H20 e20 => ?_⟩
    have h3 := os1 (l' := [Value.pointer (some ⟨L0.e, 0, none⟩), Value.slice a1 (P ++ [last]).length k1, Value.slice a' (S0.next.length + 1) k']) h2 e20 rfl
    obtain ⟨b, o, bL, rfl, hlen, hle, hrd, L2, h4, h5⟩ := G_pop (pu3 h3) hv1
    -- src chunk, last, dst, own, e
    have hl0 : (P ++ [last]).length = P.length + 1 := by simp
    refine ⟨_, _, _, (h3.blk (.tail _ (.head _))).rdv rfl, _, _, _, (h3.blk (.tail _ (.head _))).rdv rfl, by constructor <;> omega, b, o, rfl, by omega, by omega, rfl, some ⟨bL, 0, none⟩, 24, 24, ?_, ?_⟩
    · rw [show ((((P ++ [last]).length : Nat) : Int) - 1).toNat = P.length by omega]
      exact hrd
    · obtain ⟨_, _, hput⟩ := put_indep (n := n_) (a := last) (m := 24) n_ 0 S0.e (.slice none 0 0) (.slice none 0 0) (.slice (some ⟨b, o, none⟩) (P ++ [last]).length k1) (.slice a' (S0.next.length + 1) k') r e2
      have h6 : Own H20 [oBX z0 ⟨L0.e, L0.el⟩ ⟨S0.e, .slice (some ⟨b, o, none⟩) (P ++ [last]).length k1, .slice a' (S0.next.length + 1) k'⟩, cellE 9 bL (List.flatMap encS last), Gch L2 P, Gch L' (S0.next ++ [now])] F := by
        refine close_BX ⟨L0.e, L0.el⟩ ⟨S0.e, .slice (some ⟨b, o, none⟩) (P ++ [last]).length k1, .slice a' (S0.next.length + 1) k'⟩ ?_
        exact pu4 (pu4 (pu2 (pu1 (pu2 (h5)))))
      refine c81x n_ z0 ⟨L0.e, L0.el⟩ ⟨S0.e, .slice (some ⟨b, o, none⟩) (P ++ [last]).length k1, .slice a' (S0.next.length + 1) k'⟩ bL last 24 24 _ hput _ _ _ (fr2 h6) (fun H33 LX hO => ?_)
      replace hO := open_BX (un2 hO)
      -- own, e, last, src, dst
      refine ⟨_, _, _, (hO.blk (.head _)).rdv rfl, _, _, _, (hO.blk (.head _)).rdv rfl, by constructor <;> omega, by omega, by omega, (hO.blk (.head _)).wr (Nat.le_of_ble_eq_true rfl), fun H40 e40 => ?_⟩
      have h7 := os0 (l' := [Value.pointer (some ⟨LX.e, 0, none⟩), Value.slice (some ⟨b, o, none⟩) P.length k1, Value.slice a' (S0.next.length + 1) k']) hO e40 (by
        rw [show ((((P ++ [last]).length : Nat) : Int) - 1).toNat = P.length by omega]; rfl)
      refine hR _ ⟨LX.e, LX.el, L2, L'⟩ (close_BM ⟨LX.e, LX.el, L2, L'⟩ ⟨r.e, P, S0.next ++ [now]⟩ ?_)
      have h8 := dr2 h7
      rw [← h4, ← h1] at h8
      exact pu3 (pu3 (pu3 (pu3 (h8))))

theorem c58 (n_ : Nat) (z0 : Nat) (L0 : BL) (S0 : BS) (b1 : Nat) (a1 : List (List UInt8)) (m1 c1 : Nat) (r_ : Bool) (h : s58 n_ S0 a1 m1 = some r_) (F : List Ent) (H : Heap) (R : Value → Heap → Prop)
    (hO : Own H [oB z0 L0 S0, cellE 9 b1 (List.flatMap encS a1)] F)
    (hR : ∀ (H' : Heap) , Own H' [oB z0 L0 S0, cellE 9 b1 (List.flatMap encS a1)] F → R (.bool r_) H') :
    HCalls Tryz.prog 58 #[Value.pointer (some ⟨z0, 0, none⟩), Value.slice (some ⟨b1, 0, none⟩) m1 c1] H R := by
  refine vc58 z0 (some ⟨b1, 0, none⟩) m1 c1 H R ?_
  unfold s58 at h
  refine ⟨fun l Hc => ∃ m : Nat, Own Hc [oB z0 L0 S0, cellE 9 b1 (List.flatMap encS a1)] F ∧ (l58_0 n_ S0 a1 m1 m (asI (nth l 0))) = some r_, fun l Hc => Classical.epsilon <| lsp fun m => Own Hc [oB z0 L0 S0, cellE 9 b1 (List.flatMap encS a1)] F ∧ (l58_0 n_ S0 a1 m1 m (asI (nth l 0))) = some r_, ?_, ?_⟩
  · exact ⟨n_, hO, h⟩
  · clear hO h
    intro H21 u22 x23 hJ
    obtain ⟨m42, hm25, hJ⟩ := lst_get hJ
    obtain ⟨hO, h⟩ := hJ
    rcases m42 with _ | k41
    · exact absurd h (by simp [l58_0, asI, asB, asC, asS])
    obtain ⟨rec24, hrec24, h⟩ : ∃ f_, f_ = l58_0 n_ S0 a1 m1 k41 ∧ (l58_0_st n_ S0 a1 m1 f_ x23) = some r_ := ⟨_, rfl, h⟩
    unfold l58_0_st at h
    refine ⟨fun w26 => ?_, fun w27 => ?_⟩
    · replace h := ifTd w26 h
      obtain ⟨x28, g29, h⟩ := getS h
      refine ⟨_, _, rfl, g29.1, g29.2.1, rfl, ?_⟩
      obtain ⟨r30, e31, h⟩ := bindS h
      refine ⟨?_, ?_⟩
      · refine c33 z0 L0 S0 x23 r30 e31 _ _ _ (fr1 hO) (fun H33 hO => ?_)
        replace hO := un1 hO
        refine ⟨r30, rfl, ?_⟩
        refine ⟨x28, ((hO.arr (.tail _ (.head _))).rd (i := Int.toNat x23) (j := 0) lenStr g29.2.2 (by decide) (zo0 _) rfl), ?_⟩
        refine ⟨fun w34 => ?_, fun w35 => ?_⟩
        · replace w34 := bnotT w34
          replace h := ifFb w34 h
          obtain rfl := Option.some.inj h
          exact hR _ hO

        · replace w35 := bnotF w35
          replace h := ifTb w35 h
          obtain ⟨q36, h⟩ := ckS h
          refine ⟨_, .inl ⟨q36, rfl⟩, ?_⟩
          subst hrec24
          exact lst_step hm25 ⟨hO, h⟩


      · refine ⟨x28, ((hO.arr (.tail _ (.head _))).rd (i := Int.toNat x23) (j := 0) lenStr g29.2.2 (by decide) (zo0 _) rfl), ?_⟩
        refine c33 z0 L0 S0 x23 r30 e31 _ _ _ (fr1 hO) (fun H37 hO => ?_)
        replace hO := un1 hO
        refine ⟨r30, rfl, ?_⟩
        refine ⟨fun w38 => ?_, fun w39 => ?_⟩
        · replace w38 := bnotT w38
          replace h := ifFb w38 h
          obtain rfl := Option.some.inj h
          exact hR _ hO

        · replace w39 := bnotF w39
          replace h := ifTb w39 h
          obtain ⟨q40, h⟩ := ckS h
          refine ⟨_, .inl ⟨q40, rfl⟩, ?_⟩
          subst hrec24
          exact lst_step hm25 ⟨hO, h⟩



    · replace h := ifFd w27 h
      obtain rfl := Option.some.inj h
      exact hR _ hO




theorem c28 (n_ : Nat) (z0 : Nat) (L0 : BL) (S0 : BS) (z1 : Nat) (L1 : BML) (S1 : BMS) (z2 : Nat) (L2 : DL) (S2 : DS) (r_ : BS × BMS × DS × Bool) (h : s28 n_ S0 S1 S2 = some r_) (F : List Ent) (H : Heap) (R : Value → Heap → Prop)
    (hO : Own H [oB z0 L0 S0, oBM z1 L1 S1, oD z2 L2 S2] F)
    (hR : ∀ (H' : Heap) (L1' : BML) (L2' : DL), Own H' [oB z0 L0 r_.1, oBM z1 L1' r_.2.1, oD z2 L2' r_.2.2.1] F → R (.bool r_.2.2.2) H') :
    HCalls Tryz.prog 28 #[Value.pointer (some ⟨z0, 0, none⟩), Value.pointer (some ⟨z1, 0, none⟩), Value.pointer (some ⟨z2, 0, none⟩)] H R := by
  refine vc28 z0 z1 z2 H R ?_
  unfold s28 at h
  obtain ⟨now, e1, h⟩ := bindS h
  obtain ⟨r, e2, h⟩ := bindS h
  obtain ⟨q, e3, h⟩ := bindS h
  refine c47 n_ z1 L1 S1 now e1 _ _ _ (fr1 (pu1 hO)) (fun H2 bN hO => ?_)
  replace hO := un2 hO
  refine ⟨_, _, _, rfl, ?_⟩
  -- BM, now, B, D
  refine c56 n_ z0 L0 S0 r e2 _ _ _ (fr1 (pu2 hO)) (fun H7 hO => ?_)
  replace hO := un1 hO
  refine ⟨r.2, rfl, ?_⟩
  -- B, BM, now, D
  refine c57 n_ z1 L1 S1 q e3 _ _ _ (fr1 (pu1 hO)) (fun H10 L1' hO => ?_)
  replace hO := un1 hO
  refine ⟨q.2, rfl, fun w => ?_, fun w => ?_⟩
  · have w := of_decide_eq_false (bnotT w)
    rw [if_neg w] at h
    obtain rfl := Option.some.inj h
    exact hR _ L1' L2 (pu1 (dr2 hO))
  · have w := of_decide_eq_true (bnotF w)
    rw [if_pos w] at h
    have hX := open_D (pu3 hO)
    -- own, past, next, BM, B, now
    obtain ⟨a1, k1, hv1⟩ := Gsl_val (pu1 hX)
    refine ⟨a1, S2.past.length, k1, (hX.blk (.head _)).rdv (by rw [← hv1]; rfl), fun w1 => ?_, fun w1 => ?_⟩
    · have w1 := of_decide_eq_true w1
      have hp : S2.past = [] := List.eq_nil_of_length_eq_zero (by omega)
      rw [dif_pos hp] at h
      obtain rfl := Option.some.inj h
      exact hR _ L1' L2 (pu1 (dr2 hO))
    · have w1 := of_decide_eq_false w1
      have hp : ¬ S2.past = [] := fun hh => by rw [hh] at w1; exact w1 rfl
      rw [dif_neg hp] at h
      refine ⟨fun w2 => ?_, fun w2 => ?_⟩
      · have w2 := of_decide_eq_false (bnotT w2)
        rw [if_neg w2] at h
        obtain rfl := Option.some.inj h
        exact hR _ L1' L2 (pu1 (dr2 hO))
      · have w2 := of_decide_eq_true (bnotF w2)
        rw [if_pos w2] at h
        obtain ⟨hm, h⟩ := ckS h
        obtain ⟨t, e4, h⟩ := bindS h
        obtain rfl := Option.some.inj h
        have hsp : S2.past = S2.past.dropLast ++ [S2.past.getLast hp] := (List.dropLast_concat_getLast hp).symm
        have hbd : S2.past.dropLast.length < 900 := by simp; omega
        generalize S2.past.getLast hp = last at e4 hsp
        generalize hP : S2.past.dropLast = P at hsp hR hbd
        rw [hsp] at hX hv1
        have hl0 : (P ++ [last]).length = P.length + 1 := by simp
        obtain ⟨b, o, bL, rfl, hlen, hle, hrd, LP, h4, h5⟩ := G_pop (pu1 hX) hv1
        -- past, last, own, next, BM, B, now
        obtain ⟨a2, k2, hv2⟩ := Gsl_val (pu3 h5)
        rw [hv1, hv2] at h5
        refine ⟨_, _, _, (h5.blk (.tail _ (.tail _ (.head _)))).rdv rfl, _, _, _, (h5.blk (.tail _ (.tail _ (.head _)))).rdv rfl, by constructor <;> omega, b, o, rfl, by omega, by omega, rfl, some ⟨bL, 0, none⟩, 24, 24, ?_, _, _, _, (h5.blk (.tail _ (.tail _ (.head _)))).rdv rfl, _, _, _, (h5.blk (.tail _ (.tail _ (.head _)))).rdv rfl, by constructor <;> omega, by omega, by omega, (h5.blk (.tail _ (.tail _ (.head _)))).wr (Nat.le_of_ble_eq_true rfl), fun H32 e32 => ?_⟩
        · rw [show ((((P ++ [last]).length : Nat) : Int) - 1).toNat = P.length by omega]
          exact hrd
        have h6 := os2 (l' := [str S2.text, str S2.saved, .bool S2.fresh, .slice (some ⟨b, o, none⟩) P.length k1, .slice a2 S2.next.length k2, .bool S2.quiet]) h5 e32 (by
          rw [show ((((P ++ [last]).length : Nat) : Int) - 1).toNat = P.length by omega]; rfl)
        refine ⟨a2, S2.next.length, k2, (h6.blk (.tail _ (.tail _ (.head _)))).rdv rfl, fun H36 e36 => ?_⟩
        -- next, now, past, last, own, BM, B
        refine G_push (Q := q28 z0 z2 (some ⟨bL, 0, none⟩) R) (pu4 (pu6 h6)) hv2 (by omega) e36 ?_
        intro L' a' k' H' h7 h8 _
        -- next', past, last, own, BM, B
        refine ⟨(h8.blk (.tail _ (.tail _ (.tail _ (.head _))))).wr (Nat.le_of_ble_eq_true rfl), fun H44 e44 => ?_⟩
        have h9 := os3 (l' := [str S2.text, str S2.saved, .bool S2.fresh, .slice (some ⟨b, o, none⟩) P.length k1, .slice a' (S2.next.length + 1) k', .bool S2.quiet]) h8 e44 rfl
        refine ⟨(h9.blk (.tail _ (.tail _ (.tail _ (.head _))))).wr (Nat.le_of_ble_eq_true rfl), fun H45 e45 => ?_⟩
        have h10 := os3 (l' := [str S2.text, str S2.saved, .bool false, .slice (some ⟨b, o, none⟩) P.length k1, .slice a' (S2.next.length + 1) k', .bool S2.quiet]) h9 e45 rfl
        -- B, last, next', past, own, BM
        refine c58 n_ z0 L0 r.1 bL last 24 24 t e4 _ _ _ (fr2 (pu5 (pu2 h10))) (fun H47 hO => ?_)
        replace hO := un2 hO
        refine ⟨t, rfl, ?_⟩
        refine hR _ L1' ⟨LP, L'⟩ ?_
        -- B, last, next', past, own, BM : B, BM, D
        have h11 := pu3 (pu2 (pu1 (dr1 hO)))
        rw [← h4, ← h7] at h11
        exact pu2 (pu2 (close_D ⟨LP, L'⟩ ⟨S2.text, S2.saved, false, P, S2.next ++ [now], S2.quiet⟩ h11))

theorem c59 (n_ : Nat) (z0 : Nat) (L0 : BL) (S0 : BS) (r_ : BS × Int) (h : s59 n_ S0 = some r_) (F : List Ent) (H : Heap) (R : Value → Heap → Prop)
    (hO : Own H [oB z0 L0 S0] F)
    (hR : ∀ (H' : Heap) , Own H' [oB z0 L0 r_.1] F → R (I r_.2) H') :
    HCalls Tryz.prog 59 #[Value.pointer (some ⟨z0, 0, none⟩)] H R := by
  refine vc59 z0 H R ?_
  unfold s59 at h
  replace hO := open_B (pu0 hO)
  refine ⟨S0.redos, ((hO.blk (.head _)).rdv rfl), ?_⟩
  refine ⟨fun w21 => ?_, fun w22 => ?_⟩
  · replace h := ifTd w21 h
    replace hO := close_B L0 S0 (hO)
    obtain rfl := Option.some.inj h
    exact hR _ hO

  · replace h := ifFd w22 h
    refine ⟨S0.undos, ((hO.blk (.head _)).rdv rfl), ?_⟩
    replace hO := close_B L0 S0 (hO)
    obtain ⟨r23, e24, h⟩ := bindS h
    refine c43 z0 L0 S0 S0.undos r23 e24 _ _ _ (fr1 hO) (fun H25 hO => ?_)
    replace hO := un1 hO
    refine ⟨r23, rfl, ?_⟩
    obtain ⟨r26, e27, h⟩ := bindS h
    refine c80 n_ z0 L0 S0 r23 (1 : Int) r26 e27 _ _ _ (fr1 hO) (fun H28 hO => ?_)
    replace hO := un1 hO
    replace hO := open_B (pu0 hO)
    refine ⟨r26.undos, ((hO.blk (.head _)).rdv rfl), ?_⟩
    obtain ⟨q29, h⟩ := ckS h
    refine ⟨_, .inl ⟨q29, rfl⟩, ?_⟩
    refine ⟨(hO.blk (.head _)).wr (Nat.le_of_ble_eq_true rfl), ?_⟩
    intro H30 eH30
    replace hO := os0 (l' := [Value.pointer (some ⟨L0.e, 0, none⟩), Value.slice (some ⟨L0.pool, 0, none⟩) 288 288, Value.slice (some ⟨L0.turned, 0, none⟩) 6 6, I r26.base, I (r26.undos + (1 : Int)), I r26.redos, Value.slice (some ⟨L0.was, 0, none⟩) 24 24, Value.slice (some ⟨L0.out, 0, none⟩) 1056 1056]) hO eH30 rfl
    refine ⟨r26.redos, ((hO.blk (.head _)).rdv rfl), ?_⟩
    obtain ⟨q31, h⟩ := ckS h
    refine ⟨q31, ?_⟩
    refine ⟨(hO.blk (.head _)).wr (Nat.le_of_ble_eq_true rfl), ?_⟩
    intro H32 eH32
    replace hO := os0 (l' := [Value.pointer (some ⟨L0.e, 0, none⟩), Value.slice (some ⟨L0.pool, 0, none⟩) 288 288, Value.slice (some ⟨L0.turned, 0, none⟩) 6 6, I r26.base, I (r26.undos + (1 : Int)), I (r26.redos - (1 : Int)), Value.slice (some ⟨L0.was, 0, none⟩) 24 24, Value.slice (some ⟨L0.out, 0, none⟩) 1056 1056]) hO eH32 rfl
    replace hO := close_B L0 ({ r26 with undos := r26.undos + (1 : Int), redos := r26.redos - (1 : Int) }) (hO)
    obtain rfl := Option.some.inj h
    exact hR _ hO



theorem c60 (n_ : Nat) (z0 : Nat) (L0 : BML) (S0 : BMS) (r_ : BMS × Int) (h : s60 n_ S0 = some r_) (F : List Ent) (H : Heap) (R : Value → Heap → Prop)
    (hO : Own H [oBM z0 L0 S0] F)
    (hR : ∀ (H' : Heap) (L0' : BML), Own H' [oBM z0 L0' r_.1] F → R (I r_.2) H') :
    HCalls Tryz.prog 60 #[Value.pointer (some ⟨z0, 0, none⟩)] H R := by
  refine vc60 z0 H R ?_
  unfold s60 at h
  have hX := open_BM hO
  obtain ⟨a0, k0, hv0⟩ := Gsl_val (pu3 hX)
  refine ⟨a0, S0.next.length, k0, (hX.blk (.head _)).rdv (by rw [← hv0]; rfl), fun w => ?_, fun w => ?_⟩
  · have w := of_decide_eq_true w
    have hp : S0.next = [] := List.eq_nil_of_length_eq_zero (by omega)
    rw [dif_pos hp] at h
    obtain rfl := Option.some.inj h
    exact hR _ L0 hO
  · have w := of_decide_eq_false w
    have hp : ¬ S0.next = [] := fun hh => by rw [hh] at w; exact w rfl
    rw [dif_neg hp] at h
    obtain ⟨now, e1, h⟩ := bindS h
    obtain ⟨hm, h⟩ := ckS h
    obtain ⟨r, e2, h⟩ := bindS h
    obtain rfl := Option.some.inj h
    have hsp : S0.next = S0.next.dropLast ++ [S0.next.getLast hp] := (List.dropLast_concat_getLast hp).symm
    generalize S0.next.getLast hp = last at e2 hsp
    have hbd : S0.next.dropLast.length < 900 := by simp; omega
    generalize hP : S0.next.dropLast = P at hsp hR hbd
    refine c73 n_ z0 L0 S0 now e1 _ _ _ (fr1 hO) (fun H5 bN hO => ?_)
    replace hO := open_BM (un2 hO)
    rw [hsp] at hO
    refine ⟨_, _, _, rfl, ?_⟩
    -- own, e, past, next, now
    obtain ⟨a1, k1, hv1⟩ := Gsl_val (pu3 hO)
    obtain ⟨a2, k2, hv2⟩ := Gsl_val (pu2 hO)
    refine ⟨a2, S0.past.length, k2, (hO.blk (.head _)).rdv (by rw [← hv2]; rfl), ?_⟩
    intro H12 e12
    have hA : Own H5 [Gch L0.past S0.past, cellE 9 bN (List.flatMap encS now), cellE 53 z0 [Value.pointer (some ⟨L0.e, 0, none⟩), .slice a2 S0.past.length k2, .slice a1 (P ++ [last]).length k1], oEM L0.e L0.el S0.e, Gch L0.next (P ++ [last])] F := by
      rw [hv1, hv2] at hO; exact pu4 (pu4 (pu2 (pu2 (pu3 (hO)))))
    refine G_push (Q := q60 z0 R) hA hv2 (by omega) e12 ?_
    intro L' a' k' H' h1 h2 _
    refine ⟨(h2.blk (.tail _ (.head _))).wr (Nat.le_of_ble_eq_true rfl), fun H20 e20 => ?_⟩
    have h3 := os1 (l' := [Value.pointer (some ⟨L0.e, 0, none⟩), Value.slice a' (S0.past.length + 1) k', Value.slice a1 (P ++ [last]).length k1]) h2 e20 rfl
    obtain ⟨b, o, bL, rfl, hlen, hle, hrd, L2, h4, h5⟩ := G_pop (pu3 h3) hv1
    -- src chunk, last, dst, own, e
    have hl0 : (P ++ [last]).length = P.length + 1 := by simp
    refine ⟨_, _, _, (h3.blk (.tail _ (.head _))).rdv rfl, _, _, _, (h3.blk (.tail _ (.head _))).rdv rfl, by constructor <;> omega, b, o, rfl, by omega, by omega, rfl, some ⟨bL, 0, none⟩, 24, 24, ?_, ?_⟩
    · rw [show ((((P ++ [last]).length : Nat) : Int) - 1).toNat = P.length by omega]
      exact hrd
    · obtain ⟨_, _, hput⟩ := put_indep (n := n_) (a := last) (m := 24) n_ 0 S0.e (.slice none 0 0) (.slice none 0 0) (.slice a' (S0.past.length + 1) k') (.slice (some ⟨b, o, none⟩) (P ++ [last]).length k1) r e2
      have h6 : Own H20 [oBX z0 ⟨L0.e, L0.el⟩ ⟨S0.e, .slice a' (S0.past.length + 1) k', .slice (some ⟨b, o, none⟩) (P ++ [last]).length k1⟩, cellE 9 bL (List.flatMap encS last), Gch L2 P, Gch L' (S0.past ++ [now])] F := by
        refine close_BX ⟨L0.e, L0.el⟩ ⟨S0.e, .slice a' (S0.past.length + 1) k', .slice (some ⟨b, o, none⟩) (P ++ [last]).length k1⟩ ?_
        exact pu4 (pu4 (pu2 (pu1 (pu2 (h5)))))
      refine c81x n_ z0 ⟨L0.e, L0.el⟩ ⟨S0.e, .slice a' (S0.past.length + 1) k', .slice (some ⟨b, o, none⟩) (P ++ [last]).length k1⟩ bL last 24 24 _ hput _ _ _ (fr2 h6) (fun H33 LX hO => ?_)
      replace hO := open_BX (un2 hO)
      -- own, e, last, src, dst
      refine ⟨_, _, _, (hO.blk (.head _)).rdv rfl, _, _, _, (hO.blk (.head _)).rdv rfl, by constructor <;> omega, by omega, by omega, (hO.blk (.head _)).wr (Nat.le_of_ble_eq_true rfl), fun H40 e40 => ?_⟩
      have h7 := os0 (l' := [Value.pointer (some ⟨LX.e, 0, none⟩), Value.slice a' (S0.past.length + 1) k', Value.slice (some ⟨b, o, none⟩) P.length k1]) hO e40 (by
        rw [show ((((P ++ [last]).length : Nat) : Int) - 1).toNat = P.length by omega]; rfl)
      refine hR _ ⟨LX.e, LX.el, L', L2⟩ (close_BM ⟨LX.e, LX.el, L', L2⟩ ⟨r.e, S0.past ++ [now], P⟩ ?_)
      have h8 := dr2 h7
      rw [← h4, ← h1] at h8
      exact pu3 (pu3 (pu3 (pu2 (h8))))

theorem c29 (n_ : Nat) (z0 : Nat) (L0 : BL) (S0 : BS) (z1 : Nat) (L1 : BML) (S1 : BMS) (z2 : Nat) (L2 : DL) (S2 : DS) (r_ : BS × BMS × DS × Bool) (h : s29 n_ S0 S1 S2 = some r_) (F : List Ent) (H : Heap) (R : Value → Heap → Prop)
    (hO : Own H [oB z0 L0 S0, oBM z1 L1 S1, oD z2 L2 S2] F)
    (hR : ∀ (H' : Heap) (L1' : BML) (L2' : DL), Own H' [oB z0 L0 r_.1, oBM z1 L1' r_.2.1, oD z2 L2' r_.2.2.1] F → R (.bool r_.2.2.2) H') :
    HCalls Tryz.prog 29 #[Value.pointer (some ⟨z0, 0, none⟩), Value.pointer (some ⟨z1, 0, none⟩), Value.pointer (some ⟨z2, 0, none⟩)] H R := by
  refine vc29 z0 z1 z2 H R ?_
  unfold s29 at h
  obtain ⟨now, e1, h⟩ := bindS h
  obtain ⟨r, e2, h⟩ := bindS h
  obtain ⟨q, e3, h⟩ := bindS h
  refine c47 n_ z1 L1 S1 now e1 _ _ _ (fr1 (pu1 hO)) (fun H2 bN hO => ?_)
  replace hO := un2 hO
  refine ⟨_, _, _, rfl, ?_⟩
  refine c59 n_ z0 L0 S0 r e2 _ _ _ (fr1 (pu2 hO)) (fun H7 hO => ?_)
  replace hO := un1 hO
  refine ⟨r.2, rfl, ?_⟩
  refine c60 n_ z1 L1 S1 q e3 _ _ _ (fr1 (pu1 hO)) (fun H10 L1' hO => ?_)
  replace hO := un1 hO
  refine ⟨q.2, rfl, fun w => ?_, fun w => ?_⟩
  · have w := of_decide_eq_false (bnotT w)
    rw [if_neg w] at h
    obtain rfl := Option.some.inj h
    exact hR _ L1' L2 (pu1 (dr2 hO))
  · have w := of_decide_eq_true (bnotF w)
    rw [if_pos w] at h
    have hX := open_D (pu3 hO)
    -- own, past, next, BM, B, now
    obtain ⟨a1, k1, hv1⟩ := Gsl_val (pu2 hX)
    refine ⟨a1, S2.next.length, k1, (hX.blk (.head _)).rdv (by rw [← hv1]; rfl), fun w1 => ?_, fun w1 => ?_⟩
    · have w1 := of_decide_eq_true w1
      have hp : S2.next = [] := List.eq_nil_of_length_eq_zero (by omega)
      rw [dif_pos hp] at h
      obtain rfl := Option.some.inj h
      exact hR _ L1' L2 (pu1 (dr2 hO))
    · have w1 := of_decide_eq_false w1
      have hp : ¬ S2.next = [] := fun hh => by rw [hh] at w1; exact w1 rfl
      rw [dif_neg hp] at h
      refine ⟨fun w2 => ?_, fun w2 => ?_⟩
      · have w2 := of_decide_eq_false (bnotT w2)
        rw [if_neg w2] at h
        obtain rfl := Option.some.inj h
        exact hR _ L1' L2 (pu1 (dr2 hO))
      · have w2 := of_decide_eq_true (bnotF w2)
        rw [if_pos w2] at h
        obtain ⟨hm, h⟩ := ckS h
        obtain ⟨D, e5, h⟩ := bindS h
        obtain ⟨t, e4, h⟩ := bindS h
        obtain rfl := Option.some.inj h
        have hsp : S2.next = S2.next.dropLast ++ [S2.next.getLast hp] := (List.dropLast_concat_getLast hp).symm
        have hbd : S2.next.dropLast.length < 900 := by simp; omega
        generalize S2.next.getLast hp = last at e4 hsp
        generalize hP : S2.next.dropLast = P at hsp e5 hbd
        rw [hsp] at hX hv1
        have hl0 : (P ++ [last]).length = P.length + 1 := by simp
        obtain ⟨b, o, bL, rfl, hlen, hle, hrd, LP, h4, h5⟩ := G_pop (pu2 hX) hv1
        -- next, last, own, past, BM, B, now
        rw [hv1] at h5
        refine ⟨_, _, _, (h5.blk (.tail _ (.tail _ (.head _)))).rdv rfl, _, _, _, (h5.blk (.tail _ (.tail _ (.head _)))).rdv rfl, by constructor <;> omega, b, o, rfl, by omega, by omega, rfl, some ⟨bL, 0, none⟩, 24, 24, ?_, _, _, _, (h5.blk (.tail _ (.tail _ (.head _)))).rdv rfl, _, _, _, (h5.blk (.tail _ (.tail _ (.head _)))).rdv rfl, by constructor <;> omega, by omega, by omega, (h5.blk (.tail _ (.tail _ (.head _)))).wr (Nat.le_of_ble_eq_true rfl), fun H32 e32 => ?_⟩
        · rw [show ((((P ++ [last]).length : Nat) : Int) - 1).toNat = P.length by omega]
          exact hrd
        have h6 := os2 (l' := [str S2.text, str S2.saved, .bool S2.fresh, Gsl L2.past S2.past, .slice (some ⟨b, o, none⟩) P.length k1, .bool S2.quiet]) h5 e32 (by
          rw [show ((((P ++ [last]).length : Nat) : Int) - 1).toNat = P.length by omega]; rfl)
        rw [← h4] at h6
        have h7 := close_D ⟨L2.past, LP⟩ { S2 with next := P } (pu3 (pu3 h6))
        -- D, last, BM, B, now
        refine c54 z2 _ _ bN now D e5 _ _ _ (fr2 (pu1 (pu4 h7))) (fun H34 LD _ hO => ?_)
        replace hO := un1 hO
        -- D, last, BM, B
        refine c58 n_ z0 L0 r.1 bL last 24 24 t e4 _ _ _ (fr2 (pu3 (pu1 hO))) (fun H36 hO => ?_)
        replace hO := un2 hO
        refine ⟨t, rfl, ?_⟩
        -- B, last, D, BM
        exact hR _ L1' LD (pu1 (pu2 (dr1 hO)))

theorem c83 (z0 : List UInt8) (z1 : Int) (r_ : Int) (h : s83 z0 z1 = some r_) (F : List Ent) (H : Heap) (R : Value → Heap → Prop)
    (hO : Own H [] F)
    (hR : ∀ (H' : Heap) , Own H' [] F → R (I r_) H') :
    HCalls Tryz.prog 83 #[str z0, I z1] H R := by
  refine vc83 z0 z1 H R ?_
  unfold s83 at h
  obtain ⟨q21, h⟩ := ckS h
  refine ⟨q21.1, q21.2, ?_⟩
  obtain ⟨q22, h⟩ := ckS h
  refine ⟨_, .inl ⟨q22, rfl⟩, ?_⟩
  obtain ⟨q23, h⟩ := ckS h
  refine ⟨q23.1, q23.2, ?_⟩
  refine ⟨fun w25 => ?_, fun w24 => ?_⟩
  · replace h := ifFd w25 h
    refine ⟨fun w27 => ?_, fun w26 => ?_⟩
    · replace h := ifFd w27 h
      refine ⟨fun w29 => ?_, fun w28 => ?_⟩
      · replace h := ifFd w29 h
        refine ⟨fun w30 => ?_, fun w31 => ?_⟩
        · replace h := ifTd w30 h
          obtain rfl := Option.some.inj h
          exact hR _ hO

        · replace h := ifFd w31 h
          obtain ⟨q32, h⟩ := ckS h
          refine ⟨q32, ?_⟩
          obtain ⟨q33, h⟩ := ckS h
          refine ⟨q33, ?_⟩
          obtain ⟨q34, h⟩ := ckS h
          refine ⟨q34, ?_⟩
          obtain ⟨q35, h⟩ := ckS h
          refine ⟨q35, ?_⟩
          obtain ⟨q36, h⟩ := ckS h
          refine ⟨q36, ?_⟩
          obtain ⟨q37, h⟩ := ckS h
          refine ⟨_, .inl ⟨q37, rfl⟩, ?_⟩
          obtain rfl := Option.some.inj h
          exact hR _ hO


      · replace h := ifTd w28 h
        obtain rfl := Option.some.inj h
        exact hR _ hO


    · replace h := ifTd w26 h
      obtain rfl := Option.some.inj h
      exact hR _ hO


  · replace h := ifTd w24 h
    obtain rfl := Option.some.inj h
    exact hR _ hO



theorem c82 (n_ : Nat) (z0 : List UInt8) (r_ : Bool) (h : s82 n_ z0 = some r_) (F : List Ent) (H : Heap) (R : Value → Heap → Prop)
    (hO : Own H [] F)
    (hR : ∀ (H' : Heap) , Own H' [] F → R (.bool r_) H') :
    HCalls Tryz.prog 82 #[str z0] H R := by
  refine vc82 z0 H R ?_
  unfold s82 at h
  refine ⟨fun l Hc => ∃ m : Nat, Own Hc [] F ∧ (l82_0 n_ z0 m (asI (nth l 0)) (asI (nth l 1))) = some r_, fun l Hc => Classical.epsilon <| lsp fun m => Own Hc [] F ∧ (l82_0 n_ z0 m (asI (nth l 0)) (asI (nth l 1))) = some r_, ?_, ?_⟩
  · exact ⟨n_, hO, h⟩
  · clear hO h
    intro H21 u22 x23 x24 hJ
    obtain ⟨m53, hm26, hJ⟩ := lst_get hJ
    obtain ⟨hO, h⟩ := hJ
    rcases m53 with _ | k52
    · exact absurd h (by simp [l82_0, asI, asB, asC, asS])
    obtain ⟨rec25, hrec25, h⟩ : ∃ f_, f_ = l82_0 n_ z0 k52 ∧ (l82_0_st n_ z0 f_ x23 x24) = some r_ := ⟨_, rfl, h⟩
    unfold l82_0_st at h
    refine ⟨fun w27 => ?_, fun w28 => ?_⟩
    · replace h := ifTd w27 h
      obtain ⟨q29, h⟩ := ckS h
      refine ⟨q29, ?_⟩
      refine ⟨fun w30 => ?_, fun w31 => ?_⟩
      · replace h := ifTd w30 h
        obtain rfl := Option.some.inj h
        exact hR _ hO

      · replace h := ifFd w31 h
        obtain ⟨r32, e33, h⟩ := bindS h
        refine c83 z0 x24 r32 e33 _ _ _ (fr0 hO) (fun H34 hO => ?_)
        replace hO := un0 hO
        refine ⟨r32, rfl, ?_⟩
        obtain ⟨q35, h⟩ := ckS h
        refine ⟨_, .inl ⟨q35, rfl⟩, ?_⟩
        obtain ⟨r36, e37, h⟩ := bindS h
        refine c83 z0 (x24 + (2 : Int)) r36 e37 _ _ _ (fr0 hO) (fun H38 hO => ?_)
        replace hO := un0 hO
        refine ⟨r36, rfl, ?_⟩
        refine ⟨fun w40 => ?_, fun w39 => ?_⟩
        · replace h := ifFd w40 h
          refine ⟨fun w41 => ?_, fun w42 => ?_⟩
          · replace h := ifTd w41 h
            obtain rfl := Option.some.inj h
            exact hR _ hO

          · replace h := ifFd w42 h
            refine ⟨fun w44 => ?_, fun w43 => ?_⟩
            · replace h := ifFd w44 h
              refine ⟨fun w46 => ?_, fun w45 => ?_⟩
              · replace h := ifFd w46 h
                refine ⟨q29, ?_⟩
                obtain ⟨q47, h⟩ := ckS h
                refine ⟨q47, ?_⟩
                refine ⟨fun w48 => ?_, fun w49 => ?_⟩
                · replace h := ifTd w48 h
                  obtain rfl := Option.some.inj h
                  exact hR _ hO

                · replace h := ifFd w49 h
                  obtain ⟨q50, h⟩ := ckS h
                  refine ⟨_, .inl ⟨q50, rfl⟩, ?_⟩
                  obtain ⟨q51, h⟩ := ckS h
                  refine ⟨_, .inl ⟨q51, rfl⟩, ?_⟩
                  subst hrec25
                  exact lst_step hm26 ⟨hO, h⟩


              · replace h := ifTd w45 h
                obtain rfl := Option.some.inj h
                exact hR _ hO


            · replace h := ifTd w43 h
              obtain rfl := Option.some.inj h
              exact hR _ hO



        · replace h := ifTd w39 h
          obtain rfl := Option.some.inj h
          exact hR _ hO



    · replace h := ifFd w28 h
      obtain rfl := Option.some.inj h
      exact hR _ hO




theorem c84 (n_ : Nat) (z0 : Nat) (L0 : BL) (S0 : BS) (r_ : BS) (h : s84 n_ S0 = some r_) (F : List Ent) (H : Heap) (R : Value → Heap → Prop)
    (hO : Own H [oB z0 L0 S0] F)
    (hR : ∀ (H' : Heap) , Own H' [oB z0 L0 r_] F → R (.tuple #[]) H') :
    HCalls Tryz.prog 84 #[Value.pointer (some ⟨z0, 0, none⟩)] H R := by
  refine vc84 z0 H R ?_
  unfold s84 at h
  refine ⟨fun l Hc => ∃ m : Nat, ∃ S36 : BS, Own Hc [oB z0 L0 S36] F ∧ (l84_0 n_ m (asI (nth l 0)) S36) = some r_, fun l Hc => Classical.epsilon <| lsp fun m => ∃ S36 : BS, Own Hc [oB z0 L0 S36] F ∧ (l84_0 n_ m (asI (nth l 0)) S36) = some r_, ?_, ?_⟩
  · exact ⟨n_, S0, hO, h⟩
  · clear hO h
    intro H37 u38 x39 hJ
    obtain ⟨m56, hm41, hJ⟩ := lst_get hJ
    obtain ⟨S36, hO, h⟩ := hJ
    rcases m56 with _ | k55
    · exact absurd h (by simp [l84_0, asI, asB, asC, asS])
    obtain ⟨rec40, hrec40, h⟩ : ∃ f_, f_ = l84_0 n_ k55 ∧ (l84_0_st n_ f_ x39 S36) = some r_ := ⟨_, rfl, h⟩
    unfold l84_0_st at h
    replace hO := open_B (pu0 hO)
    refine ⟨S36.undos, ((hO.blk (.head _)).rdv rfl), ?_⟩
    refine ⟨S36.redos, ((hO.blk (.head _)).rdv rfl), ?_⟩
    obtain ⟨q42, h⟩ := ckS h
    refine ⟨_, .inl ⟨q42, rfl⟩, ?_⟩
    refine ⟨fun w43 => ?_, fun w44 => ?_⟩
    · replace h := ifTd w43 h
      replace hO := close_B L0 S36 (hO)
      obtain ⟨r45, e46, h⟩ := bindS h
      refine c43 z0 L0 S36 x39 r45 e46 _ _ _ (fr1 hO) (fun H47 hO => ?_)
      replace hO := un1 hO
      refine ⟨r45, rfl, ?_⟩
      obtain ⟨r48, e49, h⟩ := bindS h
      refine c91 n_ z0 L0 S36 r45 r48 e49 _ _ _ (fr1 hO) (fun H50 hO => ?_)
      replace hO := un1 hO
      obtain ⟨q51, h⟩ := ckS h
      refine ⟨_, .inl ⟨q51, rfl⟩, ?_⟩
      subst hrec40
      exact lst_step hm41 ⟨r48, hO, h⟩

    · replace h := ifFd w44 h
      refine ⟨(hO.blk (.head _)).wr (Nat.le_of_ble_eq_true rfl), ?_⟩
      intro H52 eH52
      replace hO := os0 (l' := [Value.pointer (some ⟨L0.e, 0, none⟩), Value.slice (some ⟨L0.pool, 0, none⟩) 288 288, Value.slice (some ⟨L0.turned, 0, none⟩) 6 6, I (0 : Int), I S36.undos, I S36.redos, Value.slice (some ⟨L0.was, 0, none⟩) 24 24, Value.slice (some ⟨L0.out, 0, none⟩) 1056 1056]) hO eH52 rfl
      refine ⟨(hO.blk (.head _)).wr (Nat.le_of_ble_eq_true rfl), ?_⟩
      intro H53 eH53
      replace hO := os0 (l' := [Value.pointer (some ⟨L0.e, 0, none⟩), Value.slice (some ⟨L0.pool, 0, none⟩) 288 288, Value.slice (some ⟨L0.turned, 0, none⟩) 6 6, I (0 : Int), I (0 : Int), I S36.redos, Value.slice (some ⟨L0.was, 0, none⟩) 24 24, Value.slice (some ⟨L0.out, 0, none⟩) 1056 1056]) hO eH53 rfl
      refine ⟨(hO.blk (.head _)).wr (Nat.le_of_ble_eq_true rfl), ?_⟩
      intro H54 eH54
      replace hO := os0 (l' := [Value.pointer (some ⟨L0.e, 0, none⟩), Value.slice (some ⟨L0.pool, 0, none⟩) 288 288, Value.slice (some ⟨L0.turned, 0, none⟩) 6 6, I (0 : Int), I (0 : Int), I (0 : Int), Value.slice (some ⟨L0.was, 0, none⟩) 24 24, Value.slice (some ⟨L0.out, 0, none⟩) 1056 1056]) hO eH54 rfl
      replace hO := close_B L0 ({ S36 with base := (0 : Int), undos := (0 : Int), redos := (0 : Int) }) (hO)
      obtain rfl := Option.some.inj h
      exact hR _ hO




theorem c61 (n_ : Nat) (z0 : Nat) (L0 : BL) (S0 : BS) (z1 : List UInt8) (r_ : BS × Int) (h : s61 n_ S0 z1 = some r_) (F : List Ent) (H : Heap) (R : Value → Heap → Prop)
    (hO : Own H [oB z0 L0 S0] F)
    (hR : ∀ (H' : Heap) , Own H' [oB z0 L0 r_.1] F → R (I r_.2) H') :
    HCalls Tryz.prog 61 #[Value.pointer (some ⟨z0, 0, none⟩), str z1] H R := by
  refine vc61 z0 z1 H R ?_
  unfold s61 at h
  refine ⟨fun w21 => ?_, fun w22 => ?_⟩
  · replace h := ifTd w21 h
    obtain rfl := Option.some.inj h
    exact hR _ hO

  · replace h := ifFd w22 h
    obtain ⟨r23, e24, h⟩ := bindS h
    refine c82 n_ z1 r23 e24 _ _ _ (fr0 hO) (fun H25 hO => ?_)
    replace hO := un0 hO
    refine ⟨r23, rfl, ?_⟩
    refine ⟨fun w26 => ?_, fun w27 => ?_⟩
    · replace w26 := bnotT w26
      replace h := ifFb w26 h
      obtain rfl := Option.some.inj h
      exact hR _ hO

    · replace w27 := bnotF w27
      replace h := ifTb w27 h
      refine ⟨fun l Hc => ∃ m : Nat, ∃ S64 : BS, Own Hc [oB z0 L0 S64] F ∧ (l61_5 n_ z1 m (asI (nth l 0)) (asI (nth l 1)) (asI (nth l 2)) S64) = some r_, fun l Hc => Classical.epsilon <| lsp fun m => ∃ S64 : BS, Own Hc [oB z0 L0 S64] F ∧ (l61_5 n_ z1 m (asI (nth l 0)) (asI (nth l 1)) (asI (nth l 2)) S64) = some r_, ?_, ?_⟩
      · exact ⟨n_, S0, hO, h⟩
      · clear hO h
        intro H65 u66 x67 x68 x69 hJ
        obtain ⟨m137, hm71, hJ⟩ := lst_get hJ
        obtain ⟨S64, hO, h⟩ := hJ
        rcases m137 with _ | k136
        · exact absurd h (by simp [l61_5, asI, asB, asC, asS])
        obtain ⟨rec70, hrec70, h⟩ : ∃ f_, f_ = l61_5 n_ z1 k136 ∧ (l61_5_st n_ z1 f_ x67 x68 x69 S64) = some r_ := ⟨_, rfl, h⟩
        unfold l61_5_st at h
        refine ⟨fun w72 => ?_, fun w73 => ?_⟩
        · replace h := ifTd w72 h
          refine ⟨fun l Hc => ∃ S95 : BS, Own Hc [oB z0 L0 S95] F ∧ (k61_2 x69 rec70 (asI (nth l 0)) (asI (nth l 1)) S95) = some r_, ?_, ?_⟩
          · refine ⟨fun l Hc => Own Hc [oB z0 L0 S64] F ∧ (k61_4 n_ z1 x67 x69 S64 rec70 (asI (nth l 0))) = some r_, ?_, ?_⟩
            · refine ⟨fun w126 => ?_, fun w127 => ?_⟩
              · replace h := ifTd w126 h
                refine ⟨fun w128 => ?_, fun w129 => ?_⟩
                · replace h := ifTd w128 h
                  obtain ⟨r130, e131, h⟩ := bindS h
                  refine c83 z1 x67 r130 e131 _ _ _ (fr0 hO) (fun H132 hO => ?_)
                  replace hO := un0 hO
                  refine ⟨r130, rfl, ?_⟩
                  exact ⟨hO, h⟩

                · replace h := ifFd w129 h
                  exact ⟨hO, h⟩


              · replace h := ifFd w127 h
                exact ⟨hO, h⟩


            · clear hO h
              intro H101 u102 x103 hJ
              obtain ⟨hO, h⟩ := hJ
              replace h : (k61_4 n_ z1 x67 x69 S64 rec70 x103) = some r_ := h
              unfold k61_4 at h
              refine ⟨fun l Hc => Own Hc [oB z0 L0 S64] F ∧ (k61_3 n_ x69 S64 rec70 (asI (nth l 0)) (asI (nth l 1)) (asS (nth l 2))) = some r_, ?_, ?_⟩
              · refine ⟨fun w117 => ?_, fun w118 => ?_⟩
                · replace h := ifTd w117 h
                  obtain ⟨q119, h⟩ := ckS h
                  refine ⟨_, .inl ⟨q119, rfl⟩, ?_⟩
                  obtain ⟨r120, e121, h⟩ := bindS h
                  refine c83 z1 (x67 + (2 : Int)) r120 e121 _ _ _ (fr0 hO) (fun H122 hO => ?_)
                  replace hO := un0 hO
                  refine ⟨r120, rfl, ?_⟩
                  obtain ⟨q123, h⟩ := ckS h
                  refine ⟨_, .inl ⟨q123, rfl⟩, ?_⟩
                  refine ⟨_, .inl ⟨q123, rfl⟩, ?_⟩
                  obtain ⟨q124, h⟩ := ckS h
                  refine ⟨_, .inl ⟨q124, rfl⟩, ?_⟩
                  obtain ⟨q125, h⟩ := ckS h
                  refine ⟨q125.1, q125.2.1, q125.2.2, ?_⟩
                  refine ⟨_, .inl ⟨q123, rfl⟩, ?_⟩
                  refine ⟨_, .inl ⟨q124, rfl⟩, ?_⟩
                  exact ⟨hO, h⟩

                · replace h := ifFd w118 h
                  exact ⟨hO, h⟩


              · clear hO h
                intro H104 u105 x106 x107 x108 hJ
                obtain ⟨hO, h⟩ := hJ
                replace h : (k61_3 n_ x69 S64 rec70 x106 x107 x108) = some r_ := h
                unfold k61_3 at h
                replace hO := open_B (pu0 hO)
                refine ⟨L0.e, ((hO.blk (.head _)).rdv rfl), ?_⟩
                obtain ⟨r109, e110, h⟩ := bindS h
                refine c64 L0.e L0.el S64.e x69 r109 e110 _ _ _ (fr1 (pu1 hO)) (fun H111 hO => ?_)
                replace hO := un1 hO
                refine ⟨r109, rfl, ?_⟩
                refine ⟨fun w112 => ?_, fun w113 => ?_⟩
                · replace w112 := bnotT w112
                  replace h := ifFb w112 h
                  refine ⟨L0.e, ((hO.blk (.tail _ (.head _))).rdv rfl), ?_⟩
                  obtain ⟨r114, e115, h⟩ := bindS h
                  refine c71 n_ L0.e L0.el S64.e x69 x108 r114 e115 _ _ _ (fr1 hO) (fun H116 hO => ?_)
                  replace hO := un1 hO
                  refine ⟨r114.2, rfl, ?_⟩
                  replace hO := close_B L0 ({ S64 with e := r114.1 }) (pu5 (pu4 (pu5 (pu5 (pu5 (pu5 hO))))))
                  exact ⟨({ S64 with e := r114.1 }), hO, h⟩

                · replace w113 := bnotF w113
                  replace h := ifTb w113 h
                  replace hO := close_B L0 S64 (pu5 (pu4 (pu5 (pu5 (pu5 (pu5 hO))))))
                  exact ⟨S64, hO, h⟩




          · clear hO h
            intro H96 u97 x98 x99 hJ
            obtain ⟨S95, hO, h⟩ := hJ
            replace h : (k61_2 x69 rec70 x98 x99 S95) = some r_ := h
            unfold k61_2 at h
            obtain ⟨q100, h⟩ := ckS h
            refine ⟨_, .inl ⟨q100, rfl⟩, ?_⟩
            subst hrec70
            exact lst_step hm71 ⟨S95, hO, h⟩


        · replace h := ifFd w73 h
          obtain ⟨r133, e134, h⟩ := bindS h
          refine c84 n_ z0 L0 S64 r133 e134 _ _ _ (fr1 hO) (fun H135 hO => ?_)
          replace hO := un1 hO
          obtain rfl := Option.some.inj h
          exact hR _ hO






theorem c85 (z0 : List UInt8) (z1 : Int) (r_ : Int) (h : s85 z0 z1 = some r_) (F : List Ent) (H : Heap) (R : Value → Heap → Prop)
    (hO : Own H [] F)
    (hR : ∀ (H' : Heap) , Own H' [] F → R (I r_) H') :
    HCalls Tryz.prog 85 #[str z0, I z1] H R := by
  refine vc85 z0 z1 H R ?_
  unfold s85 at h
  obtain ⟨q21, h⟩ := ckS h
  refine ⟨q21.1, q21.2, ?_⟩
  refine ⟨fun w23 => ?_, fun w22 => ?_⟩
  · replace h := ifFd w23 h
    refine ⟨q21.1, q21.2, ?_⟩
    refine ⟨fun w25 => ?_, fun w24 => ?_⟩
    · replace h := ifFd w25 h
      obtain ⟨q26, h⟩ := ckS h
      refine ⟨_, .inl ⟨q26, rfl⟩, ?_⟩
      obtain ⟨q27, h⟩ := ckS h
      refine ⟨q27.1, q27.2, ?_⟩
      refine ⟨fun w29 => ?_, fun w28 => ?_⟩
      · replace h := ifFd w29 h
        refine ⟨_, .inl ⟨q26, rfl⟩, ?_⟩
        refine ⟨q27.1, q27.2, ?_⟩
        refine ⟨fun w30 => ?_, fun w31 => ?_⟩
        · replace h := ifTd w30 h
          obtain rfl := Option.some.inj h
          exact hR _ hO

        · replace h := ifFd w31 h
          refine ⟨q21.1, q21.2, ?_⟩
          obtain ⟨q32, h⟩ := ckS h
          refine ⟨q32, ?_⟩
          obtain ⟨q33, h⟩ := ckS h
          refine ⟨q33, ?_⟩
          obtain ⟨q34, h⟩ := ckS h
          refine ⟨q34, ?_⟩
          refine ⟨_, .inl ⟨q26, rfl⟩, ?_⟩
          refine ⟨q27.1, q27.2, ?_⟩
          obtain ⟨q35, h⟩ := ckS h
          refine ⟨q35, ?_⟩
          obtain ⟨q36, h⟩ := ckS h
          refine ⟨q36, ?_⟩
          obtain ⟨q37, h⟩ := ckS h
          refine ⟨_, .inl ⟨q37, rfl⟩, ?_⟩
          obtain rfl := Option.some.inj h
          exact hR _ hO


      · replace h := ifTd w28 h
        obtain rfl := Option.some.inj h
        exact hR _ hO


    · replace h := ifTd w24 h
      obtain rfl := Option.some.inj h
      exact hR _ hO


  · replace h := ifTd w22 h
    obtain rfl := Option.some.inj h
    exact hR _ hO



theorem c62 (n_ : Nat) (z0 : Nat) (L0 : BML) (S0 : BMS) (z1 : List UInt8) (r_ : BMS × Int) (h : s62 n_ S0 z1 = some r_) (F : List Ent) (H : Heap) (R : Value → Heap → Prop)
    (hO : Own H [oBM z0 L0 S0] F)
    (hR : ∀ (H' : Heap) (L0' : BML), Own H' [oBM z0 (L0') r_.1] F → R (I r_.2) H') :
    HCalls Tryz.prog 62 #[Value.pointer (some ⟨z0, 0, none⟩), str z1] H R := by
  refine vc62 z0 z1 H R ?_
  unfold s62 at h
  refine ⟨fun w21 => ?_, fun w22 => ?_⟩
  · replace h := ifTd w21 h
    obtain rfl := Option.some.inj h
    exact hR _ L0 hO

  · replace h := ifFd w22 h
    refine ⟨rfl, (by decide), (by decide), rfl, ?_⟩
    intro H23 eH23
    replace hO := own_new (l := List.flatMap encS (List.replicate 24 ([] : List UInt8))) hO eH23 (z9 _)
    refine ⟨fun l Hc => ∃ m : Nat, ∃ a59 : List (List UInt8), Own Hc [cellE 9 H.size (List.flatMap encS a59), oBM z0 L0 S0] F ∧ (l62_0 n_ S0 z1 m (asI (nth l 0)) (asI (nth l 1)) a59) = some r_, fun l Hc => Classical.epsilon <| lsp fun m => ∃ a59 : List (List UInt8), Own Hc [cellE 9 H.size (List.flatMap encS a59), oBM z0 L0 S0] F ∧ (l62_0 n_ S0 z1 m (asI (nth l 0)) (asI (nth l 1)) a59) = some r_, ?_, ?_⟩
    · exact ⟨n_, (List.replicate 24 ([] : List UInt8)), hO, h⟩
    · clear hO h
      intro H60 u61 x62 x63 hJ
      obtain ⟨m102, hm65, hJ⟩ := lst_get hJ
      obtain ⟨a59, hO, h⟩ := hJ
      rcases m102 with _ | k101
      · exact absurd h (by simp [l62_0, asI, asB, asC, asS])
      obtain ⟨rec64, hrec64, h⟩ : ∃ f_, f_ = l62_0 n_ S0 z1 k101 ∧ (l62_0_st n_ S0 z1 f_ x62 x63 a59) = some r_ := ⟨_, rfl, h⟩
      unfold l62_0_st at h
      refine ⟨fun w66 => ?_, fun w67 => ?_⟩
      · replace h := ifTd w66 h
        obtain ⟨q68, h⟩ := ckS h
        refine ⟨q68, ?_⟩
        refine ⟨fun w69 => ?_, fun w70 => ?_⟩
        · replace h := ifTd w69 h
          obtain rfl := Option.some.inj h
          exact hR _ L0 (dr1 (pu1 hO))

        · replace h := ifFd w70 h
          obtain ⟨r71, e72, h⟩ := bindS h
          refine c85 z1 x63 r71 e72 _ _ _ (fr0 hO) (fun H73 hO => ?_)
          replace hO := un0 hO
          refine ⟨r71, rfl, ?_⟩
          obtain ⟨q74, h⟩ := ckS h
          refine ⟨_, .inl ⟨q74, rfl⟩, ?_⟩
          obtain ⟨r75, e76, h⟩ := bindS h
          refine c85 z1 (x63 + (2 : Int)) r75 e76 _ _ _ (fr0 hO) (fun H77 hO => ?_)
          replace hO := un0 hO
          refine ⟨r75, rfl, ?_⟩
          refine ⟨fun w79 => ?_, fun w78 => ?_⟩
          · replace h := ifFd w79 h
            refine ⟨fun w81 => ?_, fun w80 => ?_⟩
            · replace h := ifFd w81 h
              refine ⟨fun w83 => ?_, fun w82 => ?_⟩
              · replace h := ifFd w83 h
                refine ⟨fun w85 => ?_, fun w84 => ?_⟩
                · replace h := ifFd w85 h
                  refine ⟨q68, ?_⟩
                  obtain ⟨q86, h⟩ := ckS h
                  refine ⟨q86, ?_⟩
                  refine ⟨fun w87 => ?_, fun w88 => ?_⟩
                  · replace h := ifTd w87 h
                    obtain rfl := Option.some.inj h
                    exact hR _ L0 (dr1 (pu1 hO))

                  · replace h := ifFd w88 h
                    obtain ⟨q89, h⟩ := ckS h
                    refine ⟨_, .inl ⟨q89, rfl⟩, ?_⟩
                    refine ⟨_, .inl ⟨q89, rfl⟩, ?_⟩
                    obtain ⟨q90, h⟩ := ckS h
                    refine ⟨_, .inl ⟨q90, rfl⟩, ?_⟩
                    obtain ⟨q91, h⟩ := ckS h
                    refine ⟨q91.1, q91.2.1, q91.2.2, ?_⟩
                    obtain ⟨x92, g93, h⟩ := getS h
                    refine ⟨_, _, rfl, g93.1, g93.2.1, rfl, ?_⟩
                    refine ⟨((hO.arr (.head _)).wr1 lenStr (i := Int.toNat r71) (j := 0) (getLt g93.2.2) (Nat.le_of_ble_eq_true rfl) (zo0 _)), ?_⟩
                    intro H94 eH94
                    replace hO := os0 (l' := List.flatMap encS (List.set a59 (Int.toNat r71) (List.drop (Int.toNat (x63 + (4 : Int))) (List.take (Int.toNat ((x63 + (4 : Int)) + r75)) z1)))) hO eH94 (flat_set1 lenStr (i := Int.toNat r71) (j := 0) g93.2.2 (by decide) (zo0 _) rfl)
                    refine ⟨_, .inl ⟨q89, rfl⟩, ?_⟩
                    refine ⟨_, .inl ⟨q90, rfl⟩, ?_⟩
                    subst hrec64
                    exact lst_step hm65 ⟨(List.set a59 (Int.toNat r71) (List.drop (Int.toNat (x63 + (4 : Int))) (List.take (Int.toNat ((x63 + (4 : Int)) + r75)) z1))), hO, h⟩


                · replace h := ifTd w84 h
                  obtain rfl := Option.some.inj h
                  exact hR _ L0 (dr1 (pu1 hO))


              · replace h := ifTd w82 h
                obtain rfl := Option.some.inj h
                exact hR _ L0 (dr1 (pu1 hO))


            · replace h := ifTd w80 h
              obtain rfl := Option.some.inj h
              exact hR _ L0 (dr1 (pu1 hO))


          · replace h := ifTd w78 h
            obtain rfl := Option.some.inj h
            exact hR _ L0 (dr1 (pu1 hO))



      · replace h := ifFd w67 h
        obtain ⟨r95, e96, h⟩ := bindS h
        refine c81 n_ z0 L0 S0 H.size a59 24 24 r95 e96 _ _ _ (fr2 (pu1 (pu0 hO))) (fun H97 L98 hO => ?_)
        replace hO := un2 hO
        replace hO := open_BM (pu0 hO)
        refine ⟨(hO.blk (.head _)).wr (Nat.le_of_ble_eq_true rfl), ?_⟩
        intro H99 eH99
        replace hO := os0 (l' := [Value.pointer (some ⟨L98.e, 0, none⟩), Value.slice none 0 0, (Gsl L98.next r95.next)]) hO eH99 rfl
        refine ⟨(hO.blk (.head _)).wr (Nat.le_of_ble_eq_true rfl), ?_⟩
        intro H100 eH100
        replace hO := os0 (l' := [Value.pointer (some ⟨L98.e, 0, none⟩), Value.slice none 0 0, Value.slice none 0 0]) hO eH100 rfl
        replace hO := own_nil hO
        replace hO := own_nil hO
        replace hO := close_BM ({ L98 with past := SnL.nil, next := SnL.nil }) ({ r95 with past := [], next := [] }) (pu3 (pu3 (pu1 (pu0 hO))))
        obtain rfl := Option.some.inj h
        exact hR _ ({ L98 with past := SnL.nil, next := SnL.nil }) (dr1 (dr1 (dr1 (hO))))





theorem c30 (n_ : Nat) (z0 : Nat) (L0 : BL) (S0 : BS) (z1 : Nat) (L1 : BML) (S1 : BMS) (z2 : Nat) (L2 : DL) (S2 : DS) (z3 : List UInt8) (z4 : Bool) (r_ : BS × BMS × DS × Bool) (h : s30 n_ S0 S1 S2 z3 z4 = some r_) (F : List Ent) (H : Heap) (R : Value → Heap → Prop)
    (hO : Own H [oB z0 L0 S0, oBM z1 L1 S1, oD z2 L2 S2] F)
    (hR : ∀ (H' : Heap) (L1' : BML) (L2' : DL), Own H' [oB z0 L0 r_.1, oBM z1 (L1') r_.2.1, oD z2 (L2') r_.2.2.1] F → R (.bool r_.2.2.2) H') :
    HCalls Tryz.prog 30 #[Value.pointer (some ⟨z0, 0, none⟩), Value.pointer (some ⟨z1, 0, none⟩), Value.pointer (some ⟨z2, 0, none⟩), str z3, Value.bool z4] H R := by
  refine vc30 z0 z1 z2 z3 z4 H R ?_
  unfold s30 at h
  obtain ⟨r21, e22, h⟩ := bindS h
  refine c47 n_ z1 L1 S1 r21 e22 _ _ _ (fr1 (pu1 hO)) (fun H23 b24 hO => ?_)
  replace hO := un2 hO
  refine ⟨(some ⟨b24, 0, none⟩), 24, 24, rfl, ?_⟩
  obtain ⟨r26, e27, h⟩ := bindS h
  refine c61 n_ z0 L0 S0 z3 r26 e27 _ _ _ (fr1 (pu2 hO)) (fun H28 hO => ?_)
  replace hO := un1 hO
  refine ⟨r26.2, rfl, ?_⟩
  obtain ⟨r29, e30, h⟩ := bindS h
  refine c62 n_ z1 L1 S1 z3 r29 e30 _ _ _ (fr1 (pu1 hO)) (fun H31 L32 hO => ?_)
  replace hO := un1 hO
  refine ⟨r29.2, rfl, ?_⟩
  refine ⟨fun w33 => ?_, fun w34 => ?_⟩
  · replace w33 := bnotT w33
    replace h := ifFd w33 h
    obtain rfl := Option.some.inj h
    exact hR _ L32 L2 (dr3 (pu2 (pu1 (pu3 hO))))

  · replace w34 := bnotF w34
    replace h := ifTd w34 h
    refine ⟨fun l Hc => ∃ S76 : BS, ∃ S77 : DS, ∃ L78 : DL, Own Hc [oBM z1 L32 r29.1, oB z0 L0 S76, cellE 9 b24 (List.flatMap encS r21), oD z2 L78 S77] F ∧ (k30_2 n_ z4 r21 r26 r29 S76 S77) = some r_, ?_, ?_⟩
    · refine ⟨fun w88 => ?_, fun w89 => ?_⟩
      · replace h := ifTd w88 h
        replace hO := open_D (pu3 hO)
        refine ⟨(hO.blk (.head _)).wr (Nat.le_of_ble_eq_true rfl), ?_⟩
        intro H90 eH90
        replace hO := os0 (l' := [str S2.text, str S2.saved, Value.bool S2.fresh, Value.slice none 0 0, (Gsl L2.next S2.next), Value.bool S2.quiet]) hO eH90 rfl
        refine ⟨(hO.blk (.head _)).wr (Nat.le_of_ble_eq_true rfl), ?_⟩
        intro H91 eH91
        replace hO := os0 (l' := [str S2.text, str S2.saved, Value.bool S2.fresh, Value.slice none 0 0, Value.slice none 0 0, Value.bool S2.quiet]) hO eH91 rfl
        refine ⟨S2.quiet, ((hO.blk (.head _)).rdv rfl), ?_⟩
        refine ⟨fun w92 => ?_, fun w93 => ?_⟩
        · replace w92 := bnotT w92
          replace h := ifFb w92 h
          obtain ⟨r94, e95, h⟩ := bindS h
          refine c41 n_ z0 L0 r26.1 r94 e95 _ _ _ (fr1 (pu4 hO)) (fun H96 hO => ?_)
          replace hO := un1 hO
          refine ⟨r94.2, rfl, ?_⟩
          refine ⟨fun w97 => ?_, fun w98 => ?_⟩
          · replace w97 := bnotT w97
            replace h := ifFb w97 h
            replace hO := own_nil hO
            replace hO := own_nil hO
            replace hO := close_D ({ L2 with past := SnL.nil, next := SnL.nil }) ({ S2 with past := [], next := [] }) (pu3 (pu1 (pu0 hO)))
            obtain rfl := Option.some.inj h
            exact hR _ L32 ({ L2 with past := SnL.nil, next := SnL.nil }) (dr3 (dr3 (dr3 (pu2 (pu4 (pu0 hO))))))

          · replace w98 := bnotF w98
            replace h := ifTb w98 h
            replace hO := own_nil hO
            replace hO := own_nil hO
            replace hO := close_D ({ L2 with past := SnL.nil, next := SnL.nil }) ({ S2 with past := [], next := [] }) (pu3 (pu1 (pu0 hO)))
            replace hO := dr4 (dr4 (pu5 (pu2 (pu5 (pu0 hO)))))
            exact ⟨r94.1, ({ S2 with past := [], next := [] }), ({ L2 with past := SnL.nil, next := SnL.nil }), hO, h⟩


        · replace w93 := bnotF w93
          replace h := ifTb w93 h
          replace hO := own_nil hO
          replace hO := own_nil hO
          replace hO := close_D ({ L2 with past := SnL.nil, next := SnL.nil }) ({ S2 with past := [], next := [] }) (pu2 (pu1 (pu0 hO)))
          replace hO := dr4 (dr4 (pu5 (pu5 (pu5 (pu0 hO)))))
          exact ⟨r26.1, ({ S2 with past := [], next := [] }), ({ L2 with past := SnL.nil, next := SnL.nil }), hO, h⟩


      · replace h := ifFd w89 h
        exact ⟨r26.1, S2, L2, hO, h⟩


    · clear hO h
      intro H79 u80  hJ
      obtain ⟨S76, S77, L78, hO, h⟩ := hJ
      replace h : (k30_2 n_ z4 r21 r26 r29 S76 S77) = some r_ := h
      unfold k30_2 at h
      refine ⟨fun w81 => ?_, fun w82 => ?_⟩
      · replace w81 := bnotT w81
        replace h := ifFb w81 h
        obtain rfl := Option.some.inj h
        exact hR _ L32 L78 (dr3 (pu2 (pu1 (pu3 hO))))

      · replace w82 := bnotF w82
        replace h := ifTb w82 h
        refine ⟨fun w83 => ?_, fun w84 => ?_⟩
        · replace w83 := bnotT w83
          replace h := ifFd w83 h
          obtain rfl := Option.some.inj h
          exact hR _ L32 L78 (dr3 (pu2 (pu1 (pu3 hO))))

        · replace w84 := bnotF w84
          replace h := ifTd w84 h
          obtain ⟨r85, e86, h⟩ := bindS h
          refine c58 n_ z0 L0 S76 b24 r21 24 24 r85 e86 _ _ _ (fr2 (pu2 (pu2 hO))) (fun H87 hO => ?_)
          replace hO := un2 hO
          refine ⟨r85, rfl, ?_⟩
          obtain rfl := Option.some.inj h
          exact hR _ L32 L78 (dr3 (pu2 (pu3 (pu3 hO))))






theorem c11 (n_ : Nat) (z0 : Nat) (L0 : BL) (S0 : BS) (z1 : Nat) (L1 : BML) (S1 : BMS) (z2 : Nat) (L2 : DL) (S2 : DS) (z3 : OpT) (r_ : BS × BMS × DS × Bool) (h : s11 n_ S0 S1 S2 z3 = some r_) (F : List Ent) (H : Heap) (R : Value → Heap → Prop)
    (hO : Own H [oB z0 L0 S0, oBM z1 L1 S1, oD z2 L2 S2] F)
    (hR : ∀ (H' : Heap) (L1' : BML) (L2' : DL), Own H' [oB z0 L0 r_.1, oBM z1 (L1') r_.2.1, oD z2 (L2') r_.2.2.1] F → R (.bool r_.2.2.2) H') :
    HCalls Tryz.prog 11 #[Value.pointer (some ⟨z0, 0, none⟩), Value.pointer (some ⟨z1, 0, none⟩), Value.pointer (some ⟨z2, 0, none⟩), Value.agg ⟨encOp z3⟩] H R := by
  refine vc11 z0 z1 z2 z3 H R ?_
  unfold s11 at h
  intro H21 eH21
  replace hO := own_new (l := encOp z3) hO eH21 rfl
  refine ⟨z3.kind, ((hO.blk (.head _)).rdv rfl), ?_⟩
  refine ⟨fun w22 => ?_, fun w23 => ?_⟩
  · replace h := ifTd w22 h
    replace hO := open_D (pu3 hO)
    refine ⟨S2.text, ((hO.blk (.head _)).rdv rfl), ?_⟩
    refine ⟨z3.s, ((hO.blk (.tail _ (.tail _ (.tail _ (.head _))))).rdv rfl), ?_⟩
    obtain ⟨r24, e25, h⟩ := bindS h
    refine c25 S2.text z3.s (1056 : Int) r24 e25 _ _ _ (fr0 hO) (fun H26 hO => ?_)
    replace hO := un0 hO
    refine ⟨r24, rfl, ?_⟩
    refine ⟨(hO.blk (.head _)).wr (Nat.le_of_ble_eq_true rfl), ?_⟩
    intro H27 eH27
    replace hO := os0 (l' := [str r24, str S2.saved, Value.bool S2.fresh, (Gsl L2.past S2.past), (Gsl L2.next S2.next), Value.bool S2.quiet]) hO eH27 rfl
    replace hO := close_D L2 ({ S2 with text := r24 }) (hO)
    obtain rfl := Option.some.inj h
    exact hR _ L1 L2 (dr3 (pu3 (pu3 (pu0 hO))))

  · replace h := ifFd w23 h
    refine ⟨fun w28 => ?_, fun w29 => ?_⟩
    · replace h := ifTd w28 h
      replace hO := open_D (pu3 hO)
      refine ⟨S2.text, ((hO.blk (.head _)).rdv rfl), ?_⟩
      refine ⟨z3.s, ((hO.blk (.tail _ (.tail _ (.tail _ (.head _))))).rdv rfl), ?_⟩
      obtain ⟨r30, e31, h⟩ := bindS h
      refine c26 S2.text z3.s (40 : Int) r30 e31 _ _ _ (fr0 hO) (fun H32 hO => ?_)
      replace hO := un0 hO
      refine ⟨r30, rfl, ?_⟩
      refine ⟨(hO.blk (.head _)).wr (Nat.le_of_ble_eq_true rfl), ?_⟩
      intro H33 eH33
      replace hO := os0 (l' := [str ([] : List UInt8), str S2.saved, Value.bool S2.fresh, (Gsl L2.past S2.past), (Gsl L2.next S2.next), Value.bool S2.quiet]) hO eH33 rfl
      refine ⟨z3, (hO.blk (.tail _ (.tail _ (.tail _ (.head _))))).rowT rfl, ?_⟩
      replace hO := close_D L2 ({ S2 with text := ([] : List UInt8) }) (hO)
      obtain ⟨r34, e35, h⟩ := bindS h
      refine c27 n_ z0 L0 S0 z1 L1 S1 z2 L2 ({ S2 with text := ([] : List UInt8) }) z3 r30 r34 e35 _ _ _ (fr3 (pu3 (pu3 (pu0 hO)))) (fun H36 L37 L38 hO => ?_)
      replace hO := un3 hO
      refine ⟨r34.2.2.2, rfl, ?_⟩
      obtain rfl := Option.some.inj h
      exact hR _ L37 L38 (dr3 (hO))

    · replace h := ifFd w29 h
      refine ⟨fun w39 => ?_, fun w40 => ?_⟩
      · replace h := ifTd w39 h
        refine ⟨z3, (hO.blk (.head _)).rowT rfl, ?_⟩
        obtain ⟨r41, e42, h⟩ := bindS h
        refine c27 n_ z0 L0 S0 z1 L1 S1 z2 L2 S2 z3 ([] : List UInt8) r41 e42 _ _ _ (fr3 (pu3 (pu3 (pu3 hO)))) (fun H43 L44 L45 hO => ?_)
        replace hO := un3 hO
        refine ⟨r41.2.2.2, rfl, ?_⟩
        obtain rfl := Option.some.inj h
        exact hR _ L44 L45 (dr3 (hO))

      · replace h := ifFd w40 h
        refine ⟨fun w46 => ?_, fun w47 => ?_⟩
        · replace h := ifTd w46 h
          refine ⟨z3, (hO.blk (.head _)).rowT rfl, ?_⟩
          obtain ⟨r48, e49, h⟩ := bindS h
          refine c27 n_ z0 L0 S0 z1 L1 S1 z2 L2 S2 z3 ([] : List UInt8) r48 e49 _ _ _ (fr3 (pu3 (pu3 (pu3 hO)))) (fun H50 L51 L52 hO => ?_)
          replace hO := un3 hO
          refine ⟨r48.2.2.2, rfl, ?_⟩
          obtain rfl := Option.some.inj h
          exact hR _ L51 L52 (dr3 (hO))

        · replace h := ifFd w47 h
          refine ⟨fun w53 => ?_, fun w54 => ?_⟩
          · replace h := ifTd w53 h
            obtain ⟨r55, e56, h⟩ := bindS h
            refine c28 n_ z0 L0 S0 z1 L1 S1 z2 L2 S2 r55 e56 _ _ _ (fr3 (pu3 (pu3 (pu3 hO)))) (fun H57 L58 L59 hO => ?_)
            replace hO := un3 hO
            refine ⟨r55.2.2.2, rfl, ?_⟩
            obtain rfl := Option.some.inj h
            exact hR _ L58 L59 (dr3 (hO))

          · replace h := ifFd w54 h
            refine ⟨fun w60 => ?_, fun w61 => ?_⟩
            · replace h := ifTd w60 h
              obtain ⟨r62, e63, h⟩ := bindS h
              refine c29 n_ z0 L0 S0 z1 L1 S1 z2 L2 S2 r62 e63 _ _ _ (fr3 (pu3 (pu3 (pu3 hO)))) (fun H64 L65 L66 hO => ?_)
              replace hO := un3 hO
              refine ⟨r62.2.2.2, rfl, ?_⟩
              obtain rfl := Option.some.inj h
              exact hR _ L65 L66 (dr3 (hO))

            · replace h := ifFd w61 h
              refine ⟨fun w67 => ?_, fun w68 => ?_⟩
              · replace h := ifTd w67 h
                obtain ⟨r69, e70, h⟩ := bindS h
                refine c23 n_ z0 L0 S0 z1 L1 S1 r69 e70 _ _ _ (fr2 (pu2 (pu2 hO))) (fun H71 hO => ?_)
                replace hO := un2 hO
                refine ⟨r69.2.1, r69.2.2, rfl, ?_⟩
                replace hO := open_D (pu3 hO)
                refine ⟨(hO.blk (.head _)).wr (Nat.le_of_ble_eq_true rfl), ?_⟩
                intro H72 eH72
                replace hO := os0 (l' := [str S2.text, str r69.2.1, Value.bool S2.fresh, (Gsl L2.past S2.past), (Gsl L2.next S2.next), Value.bool S2.quiet]) hO eH72 rfl
                refine ⟨(hO.blk (.head _)).wr (Nat.le_of_ble_eq_true rfl), ?_⟩
                intro H73 eH73
                replace hO := os0 (l' := [str S2.text, str r69.2.1, Value.bool true, (Gsl L2.past S2.past), (Gsl L2.next S2.next), Value.bool S2.quiet]) hO eH73 rfl
                replace hO := close_D L2 ({ S2 with saved := r69.2.1, fresh := true }) (hO)
                obtain rfl := Option.some.inj h
                exact hR _ L1 L2 (dr3 (pu2 (pu2 (pu0 hO))))

              · replace h := ifFd w68 h
                refine ⟨fun w74 => ?_, fun w75 => ?_⟩
                · replace h := ifTd w74 h
                  replace hO := open_D (pu3 hO)
                  refine ⟨S2.text, ((hO.blk (.head _)).rdv rfl), ?_⟩
                  refine ⟨z3.s, ((hO.blk (.tail _ (.tail _ (.tail _ (.head _))))).rdv rfl), ?_⟩
                  obtain ⟨r76, e77, h⟩ := bindS h
                  refine c26 S2.text z3.s (1056 : Int) r76 e77 _ _ _ (fr0 hO) (fun H78 hO => ?_)
                  replace hO := un0 hO
                  refine ⟨r76, rfl, ?_⟩
                  refine ⟨(hO.blk (.head _)).wr (Nat.le_of_ble_eq_true rfl), ?_⟩
                  intro H79 eH79
                  replace hO := os0 (l' := [str ([] : List UInt8), str S2.saved, Value.bool S2.fresh, (Gsl L2.past S2.past), (Gsl L2.next S2.next), Value.bool S2.quiet]) hO eH79 rfl
                  refine ⟨(hO.blk (.head _)).wr (Nat.le_of_ble_eq_true rfl), ?_⟩
                  intro H80 eH80
                  replace hO := os0 (l' := [str ([] : List UInt8), str S2.saved, Value.bool false, (Gsl L2.past S2.past), (Gsl L2.next S2.next), Value.bool S2.quiet]) hO eH80 rfl
                  replace hO := close_D L2 ({ S2 with text := ([] : List UInt8), fresh := false }) (hO)
                  obtain ⟨r81, e82, h⟩ := bindS h
                  refine c30 n_ z0 L0 S0 z1 L1 S1 z2 L2 ({ S2 with text := ([] : List UInt8), fresh := false }) r76 false r81 e82 _ _ _ (fr3 (pu3 (pu3 (pu0 hO)))) (fun H83 L84 L85 hO => ?_)
                  replace hO := un3 hO
                  refine ⟨r81.2.2.2, rfl, ?_⟩
                  obtain rfl := Option.some.inj h
                  exact hR _ L84 L85 (dr3 (hO))

                · replace h := ifFd w75 h
                  refine ⟨fun w86 => ?_, fun w87 => ?_⟩
                  · replace h := ifTd w86 h
                    replace hO := open_D (pu3 hO)
                    refine ⟨S2.saved, ((hO.blk (.head _)).rdv rfl), ?_⟩
                    refine ⟨S2.fresh, ((hO.blk (.head _)).rdv rfl), ?_⟩
                    replace hO := close_D L2 S2 (hO)
                    obtain ⟨r88, e89, h⟩ := bindS h
                    refine c30 n_ z0 L0 S0 z1 L1 S1 z2 L2 S2 S2.saved S2.fresh r88 e89 _ _ _ (fr3 (pu3 (pu3 (pu0 hO)))) (fun H90 L91 L92 hO => ?_)
                    replace hO := un3 hO
                    refine ⟨r88.2.2.2, rfl, ?_⟩
                    obtain rfl := Option.some.inj h
                    exact hR _ L91 L92 (dr3 (hO))

                  · replace h := ifFd w87 h
                    refine ⟨fun w93 => ?_, fun w94 => ?_⟩
                    · replace h := ifTd w93 h
                      refine ⟨z3.a, ((hO.blk (.head _)).rdv rfl), ?_⟩
                      obtain ⟨r95, e96, h⟩ := bindS h
                      refine c19 z0 L0 S0 z1 L1 S1 z3.a r95 e96 _ _ _ (fr2 (pu2 (pu2 hO))) (fun H97 hO => ?_)
                      replace hO := un2 hO
                      refine ⟨r95, rfl, ?_⟩
                      obtain rfl := Option.some.inj h
                      exact hR _ L1 L2 (dr3 (pu2 (pu2 (pu3 hO))))

                    · replace h := ifFd w94 h
                      refine ⟨fun w98 => ?_, fun w99 => ?_⟩
                      · replace h := ifTd w98 h
                        refine ⟨z3.a, ((hO.blk (.head _)).rdv rfl), ?_⟩
                        obtain ⟨r100, e101, h⟩ := bindS h
                        refine c20 z0 L0 S0 z1 L1 S1 z3.a r100 e101 _ _ _ (fr2 (pu2 (pu2 hO))) (fun H102 hO => ?_)
                        replace hO := un2 hO
                        refine ⟨r100, rfl, ?_⟩
                        obtain rfl := Option.some.inj h
                        exact hR _ L1 L2 (dr3 (pu2 (pu2 (pu3 hO))))

                      · replace h := ifFd w99 h
                        refine ⟨fun w103 => ?_, fun w104 => ?_⟩
                        · replace h := ifTd w103 h
                          refine c21 z0 L0 S0 z1 L1 S1 z2 L2 S2 _ rfl _ _ _ (fr3 (pu3 (pu3 (pu3 hO)))) (fun H105 hO => ?_)
                          replace hO := un3 hO
                          refine ⟨(s21 S0 S1 S2), rfl, ?_⟩
                          obtain rfl := Option.some.inj h
                          exact hR _ L1 L2 (dr3 (hO))

                        · replace h := ifFd w104 h
                          refine ⟨fun w106 => ?_, fun w107 => ?_⟩
                          · replace h := ifTd w106 h
                            refine c22 z0 L0 S0 z1 L1 S1 z2 L2 S2 _ rfl _ _ _ (fr3 (pu3 (pu3 (pu3 hO)))) (fun H108 hO => ?_)
                            replace hO := un3 hO
                            refine ⟨(s22 S0 S1 S2), rfl, ?_⟩
                            obtain rfl := Option.some.inj h
                            exact hR _ L1 L2 (dr3 (hO))

                          · replace h := ifFd w107 h
                            refine ⟨fun w109 => ?_, fun w110 => ?_⟩
                            · replace h := ifTd w109 h
                              obtain ⟨r111, e112, h⟩ := bindS h
                              refine c24 n_ z0 L0 S0 r111 e112 _ _ _ (fr1 (pu1 hO)) (fun H113 hO => ?_)
                              replace hO := un1 hO
                              refine ⟨r111, rfl, ?_⟩
                              obtain rfl := Option.some.inj h
                              exact hR _ L1 L2 (dr3 (pu2 (pu3 (pu3 hO))))

                            · replace h := ifFd w110 h
                              obtain rfl := Option.some.inj h
                              exact hR _ L1 L2 (dr3 (pu3 (pu3 (pu3 hO))))
















end Go.Proofs.Qxb6500272aGreat
