/-
  Plain laws, the sheet: Set on both sides.
-/
import Derived.Test.Qxb6500272aGreatK0
namespace Go.Proofs.Qxb6500272aGreat
open Go
set_option linter.unusedVariables false
set_option linter.unusedSimpArgs false
theorem envOk_of {E : List ValT} (h : E.length = 24) (h2 : ∀ c, c < 24 → Okv (vl E c)) : EnvOk E := by
  refine ⟨h, fun x hx => ?_⟩
  obtain ⟨i, hi⟩ := List.mem_iff_getElem?.1 hx
  have hlt := (List.getElem?_eq_some_iff.1 hi).1
  have := vl_get h (show i < 24 by omega)
  rw [hi] at this
  injection this with this
  rw [this]; exact h2 i (by omega)
theorem rw_set {rs : List (List UInt8)} (h : Raws rs) {c : Nat} (hc : c < 24) (r : List UInt8) (j : Nat) : rw_ (rs.set c r) j = if j = c then r else rw_ rs j := getD_set _ _ (by rw [h.1]; exact hc) j
theorem s90_ok {n : Nat} (hn : 1000 ≤ n) {K : KS} (hK : KInv K) {c : Nat} (hc : c < 24) {raw : List UInt8} (hr : raw.length ≤ 40) : ∃ K', s90 n K (c : Int) raw = some (K', 0) ∧ KInv K' ∧ K'.raw = K.raw.set c raw := by
  have hlaw := cellLaw hr
  obtain ⟨V1, e1, hV1⟩ := hlaw.reads n hn K.ev hK.ev
  obtain ⟨G1, e2, hG1, hrd⟩ := s108_ok hn hK.net hc hlaw.in24
  have hraws := hK.raws.set (c := c) hr
  have hreads : G1.reads = RDof (K.raw.set c raw) := by rw [hrd, hK.reads, RDof_set]
  obtain ⟨h, e3, hin, hz, hcl⟩ := s109_ok hn G1 hG1.rb (z := s92 (c : Int)) (in24_92 _)
  have hch : h.getLsbD c = true := hz c hc (by rw [s92_bit hc]; simp)
  have hlevN := hG1.lev
  rw [hreads] at hlevN
  have hlevO := hK.net.lev
  rw [hK.reads] at hlevO
  obtain ⟨E1, e4, hE1l, hE1⟩ := s111_ok hn (h &&& s110 G1) { K with ev := V1, net := G1, raw := K.raw.set c raw } hK.right.env.len
  have hE1 : ∀ x, x < 24 → vl E1 x = if (h &&& G1.cyclic).getLsbD x = true then ecyc else vl K.shown x := hE1
  have hE1ok : EnvOk E1 := envOk_of hE1l fun x hx => by
    rw [hE1 x hx]
    split
    · exact okv_ecyc
    · exact hK.right.env.at hx
  have hnb : ∀ x, x < 24 → 0 ≤ lv G1.level x → vl E1 x = vl K.shown x := by
    intro x hx h0
    rw [hE1 x hx, if_neg]
    rw [BitVec.getLsbD_and, Bool.and_eq_true]
    intro q
    have := (hG1.cyc x hx).1 q.2
    omega
  obtain ⟨l, e5, hO⟩ := s112_ok hn hG1 hin
  obtain ⟨t', E', V', e6, hV', hI⟩ := sw_loop (K := { K with ev := V1, net := G1, raw := K.raw.set c raw }) (c := c) hn hraws hreads hlevN (fun i x hx => by
    obtain ⟨c, p1, p2, p3, p4⟩ := hO.mem i x hx
    exact ⟨c, p1, p2, p4⟩) hO.sorted (by have := hO.len; omega) hE1ok (by
    intro x hx hxc h0 hne
    right
    refine ⟨K.shown, hK.right.env, ?_, fun d hd h0d => hnb d hd h0d⟩
    rw [hnb x hx h0] at hne ⊢
    show vl K.shown x = cvOf (rw_ (K.raw.set c raw) x) K.shown
    rw [rw_set hK.raws hc, if_neg hxc]
    have := hlevO.lo x hx
    by_cases hq : lv K.net.level x = -1
    · exact absurd (hK.right.cyc x hx hq) hne
    · exact hK.right.val x hx (by omega)) l.length 0 n 0 E1 V1 (by omega) (by
        have := hO.len
        omega) hV1 ⟨hE1ok, fun j x hj => by omega, fun _ _ _ => rfl, fun d hd hb => by simp at hb⟩
  -- outside h nothing moves
  have hbc : ∀ b, b < 24 → h.getLsbD b = false → b ≠ c := fun b _ hh q => by subst q; rw [hch] at hh; cases hh
  have hRout : ∀ b d, b < 24 → d < 24 → h.getLsbD b = false → rdb (RDof K.raw) b d = rdb (RDof (K.raw.set c raw)) b d := by
    intro b d hb hd hh
    rw [rdb_at hK.raws hb, rdb_at hraws hb, rw_set hK.raws hc, if_neg (hbc b hb hh)]
  have hclos : ∀ b d, b < 24 → d < 24 → h.getLsbD b = false → rdb (RDof (K.raw.set c raw)) b d = true → h.getLsbD d = false := by
    intro b d hb hd hh hr
    cases hhd : h.getLsbD d with
    | false => rfl
    | true =>
      rw [← hreads, ← hG1.turn b d hb hd] at hr
      rw [hcl d b hd hb hhd hr] at hh; cases hh
  have hlout := lev_out hlevO hlevN (h := fun b => h.getLsbD b) hRout hclos
  have hsame : ∀ d, d < 24 → (h.getLsbD d = false ∨ lv G1.level d = -1) → vl E' d = vl E1 d := by
    intro d hd hq
    refine hI.same d hd ?_
    cases htd : t'.getLsbD d with
    | false => rfl
    | true =>
      obtain ⟨j, _, hj⟩ := hI.turned d hd htd
      obtain ⟨d', p1, p2, p3, p4⟩ := hO.mem j _ hj
      have : d' = d := by omega
      subst this
      rcases hq with hq | hq
      · rw [p3] at hq; cases hq
      · omega
  have hright : Right (K.raw.set c raw) (lv G1.level) E' := by
    refine ⟨hI.env, fun x hx hm => ?_, fun x hx h0 => ?_⟩
    · rw [hsame x hx (Or.inr hm), hE1 x hx]
      cases hh : h.getLsbD x with
      | true =>
        rw [if_pos]
        rw [BitVec.getLsbD_and, hh, (hG1.cyc x hx).2 hm]; rfl
      | false =>
        split
        · rfl
        · exact hK.right.cyc x hx (by rw [hlout x hx hh]; exact hm)
    · cases hh : h.getLsbD x with
      | true =>
        obtain ⟨i, hi⟩ := hO.all x hx hh h0
        exact hI.fin i x (List.getElem?_eq_some_iff.1 hi).1 hi
      | false =>
        rw [hsame x hx (Or.inl hh), hnb x hx h0, rw_set hK.raws hc, if_neg (hbc x hx hh)]
        rw [hK.right.val x hx (by rw [hlout x hx hh]; exact h0)]
        refine cv_dep (hK.raws.at x) hK.right.env hI.env fun d hd hb => ?_
        have hR : rdb (RDof (K.raw.set c raw)) x d = true := by rw [← hRout x d hx hd hh, rdb_at hK.raws hx]; exact hb
        have hhd := hclos x d hx hd hh hR
        have h0d := ((hlevN.a x hx h0).1 d hd hR).1
        rw [hsame d hd (Or.inl hhd), hnb d hd h0d]
  refine ⟨{ K with ev := V', net := G1, raw := K.raw.set c raw, shown := E' }, ?_, ⟨hV', hG1, hraws, hreads, hright⟩, rfl⟩
  unfold s90
  rw [if_neg (by omega), if_neg (by omega), if_neg (by omega), bindT e1, bindT e2, bindT (getNd2 [] hK.raws.1 hc), Int.toNat_natCast, bindT e3]
  refine (bindT e4).trans ?_
  refine (bindT (show s112 n G1 h = _ from e5)).trans ?_
  have e6 : s113 n { K with ev := V1, net := G1, raw := K.raw.set c raw, shown := E1 } (c : Int) l = some { K with ev := V', net := G1, raw := K.raw.set c raw, shown := E' } := e6
  exact bindT e6
end Go.Proofs.Qxb6500272aGreat
