/-
  Plain laws, values: single instructions; leaves.
-/
import Derived.Test.Qxb6500272aGreatX4
namespace Go.Proofs.Qxb6500272aGreat
open Go
set_option linter.unusedVariables false
set_option linter.unusedSimpArgs false
section
variable {n : Nat} {S S1 : VS} {t d : Nat} {env : List ValT}
theorem bindR {α : Type} {o : Option α} {x : α} (h : o = some x) : (o.bind fun y => some y) = some x := by rw [h]; rfl
theorem i_push (v : ValT) (s : BitVec 32) (a : Int) (h : Rdy S t d) (ht : t < 24) : ∃ S', s201 n S ⟨1, a, v, s⟩ env 24 = some S' ∧ RunTo S t d [v] [] S' := by
  obtain ⟨S', e, hr⟩ := s219_ok h ht v
  refine ⟨S', ?_, hr⟩
  unfold s201
  simp only [reduceIte]
  exact bindR e
theorem i_cell (v : ValT) (s : BitVec 32) {c : Nat} {x : ValT} (hl : env.length = 24) (hx : env[c]? = some x) (h : Rdy S t d) (ht : t < 24) : ∃ S', s201 n S ⟨2, (c : Int), v, s⟩ env 24 = some S' ∧ RunTo S t d [x] [] S' := by
  obtain ⟨S', e, hr⟩ := s219_ok h ht x
  refine ⟨S', ?_, hr⟩
  have hc := (List.getElem?_eq_some_iff.1 hx).1
  unfold s201
  rw [if_neg (by show ¬ (2 : Int) = 1; decide), if_pos (by rfl)]
  simp only
  rw [bindT (getT (x := x) (by omega) (by omega) (by rw [Int.toNat_natCast]; exact hx))]
  exact bindR e
theorem i_un (v : ValT) (s : BitVec 32) {a : Int} {x y : ValT} (h : RunTo S t d [x] [] S1) (ht : t < 24) (hy : s226 a x = some y) : ∃ S', s201 n S1 ⟨3, a, v, s⟩ env 24 = some S' ∧ RunTo S t d [y] [] S' := by
  have hr := h.rdy
  obtain ⟨S', e, h2⟩ := s219_ok hr.pop ht y
  refine ⟨S', ?_, h.repl h2⟩
  unfold s201
  rw [if_neg (by show ¬ (3 : Int) = 1; decide), if_neg (by show ¬ (3 : Int) = 2; decide), if_pos (by rfl)]
  rw [bindT (s202_ok hr ht (h.at (i := 0) rfl)), bindT (by rw [s220_eq]; exact hy)]
  exact bindR e
theorem i_bin (v : ValT) (s : BitVec 32) {a : Int} {x y z : ValT} (h : RunTo S t d [x, y] [] S1) (ht : t + 1 < 24) (hz : s227 a x y = some z) : ∃ S', s201 n S1 ⟨4, a, v, s⟩ env 24 = some S' ∧ RunTo S t d [z] [] S' := by
  have hr : Rdy S1 (t + 1 + 1) d := h.rdy
  obtain ⟨S', e, h2⟩ := s219_ok hr.pop.pop (by omega) z
  refine ⟨S', ?_, h.repl h2⟩
  unfold s201
  rw [if_neg (by show ¬ (4 : Int) = 1; decide), if_neg (by show ¬ (4 : Int) = 2; decide), if_neg (by show ¬ (4 : Int) = 3; decide), if_pos (by rfl)]
  rw [bindT (s202_ok hr ht (h.at (i := 1) rfl)), bindT (s202_ok hr.pop (by omega) (h.at (i := 0) rfl)), bindT (by rw [s221_eq]; exact hz)]
  exact bindR e
theorem i_ch (v : ValT) (s : BitVec 32) {a : Int} {c x y : ValT} (h : RunTo S t d [c, x, y] [] S1) (ht : t + 2 < 24) : ∃ S', s201 n S1 ⟨5, a, v, s⟩ env 24 = some S' ∧ RunTo S t d [s228 c x y] [] S' := by
  have hr : Rdy S1 (t + 1 + 1 + 1) d := h.rdy
  obtain ⟨S', e, h2⟩ := s219_ok hr.pop.pop.pop (by omega) (s228 c x y)
  refine ⟨S', ?_, h.repl h2⟩
  unfold s201
  rw [if_neg (by show ¬ (5 : Int) = 1; decide), if_neg (by show ¬ (5 : Int) = 2; decide), if_neg (by show ¬ (5 : Int) = 3; decide), if_neg (by show ¬ (5 : Int) = 4; decide), if_pos (by rfl)]
  rw [bindT (s202_ok hr ht (h.at (i := 2) rfl)), bindT (s202_ok hr.pop (by omega) (h.at (i := 1) rfl)), bindT (s202_ok hr.pop.pop (by omega) (h.at (i := 0) rfl))]
  rw [s222_eq]
  exact bindR e
theorem i_open (v : ValT) (s : BitVec 32) {a : Int} {xs : List ValT} (h : RunTo S t d xs [] S1) (hd : d < 24) : ∃ S', s201 n S1 ⟨6, a, v, s⟩ env 24 = some S' ∧ RunTo S t d xs [⟨⟨0, 0, []⟩, 0, 0⟩] S' := by
  have hr := h.rdy
  have hdp : S1.deep = (d : Int) := hr.deep
  unfold s201
  rw [if_neg (by show ¬ (6 : Int) = 1; decide), if_neg (by show ¬ (6 : Int) = 2; decide), if_neg (by show ¬ (6 : Int) = 3; decide), if_neg (by show ¬ (6 : Int) = 4; decide), if_neg (by show ¬ (6 : Int) = 5; decide), if_pos (by rfl)]
  rw [hdp, bindT (getT (x := S1.folds[d]'(by rw [hr.fo]; exact hd)) (by omega) (by omega) (by rw [Int.toNat_natCast]; exact getL _)), ckF (by constructor <;> omega), Int.toNat_natCast]
  obtain ⟨st, fo, rfl, a1, a2, a3, a4, a5, a6⟩ := h
  refine ⟨_, rfl, st, fo.set d ⟨⟨0, 0, []⟩, 0, 0⟩, rfl, a1, by rw [List.length_set]; exact a2, a3, a4, ?_, ?_⟩
  · intro i hi
    rw [List.getElem?_set_ne (by omega)]; exact a5 i hi
  · intro i T hT
    match i, hT with
    | 0, hT =>
      injection hT with hT
      subst hT
      exact List.getElem?_set_self (by omega)
    | i + 1, hT => simp at hT
theorem RunTo.fold {xs : List ValT} {T T' : TallyT} (h : RunTo S t d xs [T] S1) (hd : d < 24) : RunTo S t d xs [T'] (fo S1 d T') := by
  obtain ⟨st, fo, rfl, a1, a2, a3, a4, a5, a6⟩ := h
  refine ⟨st, fo.set d T', rfl, a1, by rw [List.length_set]; exact a2, a3, a4, ?_, ?_⟩
  · intro i hi
    rw [List.getElem?_set_ne (by omega)]; exact a5 i hi
  · intro i T hT
    match i, hT with
    | 0, hT =>
      injection hT with hT
      subst hT
      exact List.getElem?_set_self (by omega)
    | i + 1, hT => simp at hT
theorem RunTo.popd {x : ValT} {fs : List TallyT} (h : RunTo S t d [x] fs S1) : RunTo S t d [] fs { S1 with top := (t : Int) } := by
  obtain ⟨st, fo, rfl, a1, a2, a3, a4, a5, a6⟩ := h
  exact ⟨st, fo, rfl, a1, a2, a3, fun i x hx => by simp at hx, a5, a6⟩
theorem i_take (v : ValT) (s : BitVec 32) {f : Int} {k : Nat} {x : ValT} {T : TallyT} {F : FoldT} (h : RunTo S t d [x] [T] S1) (ht : t < 24) (hd : d < 24) (hf : IsTal f) (hF : FoldR f k T F) (hk : k ≤ 1000000) (hx : Okv x) : ∃ S', s201 n S1 ⟨7, f, v, s⟩ env 24 = some S' ∧ RunTo S t d [] [tak f T x false] S' := by
  have hr := h.rdy
  unfold s201
  rw [if_neg (by show ¬ (7 : Int) = 1; decide), if_neg (by show ¬ (7 : Int) = 2; decide), if_neg (by show ¬ (7 : Int) = 3; decide), if_neg (by show ¬ (7 : Int) = 4; decide), if_neg (by show ¬ (7 : Int) = 5; decide), if_neg (by show ¬ (7 : Int) = 6; decide), if_pos (by rfl)]
  rw [bindT (s202_ok hr ht (h.at (i := 0) rfl))]
  have hp := h.popd
  have hdp : ({ S1 with top := (t : Int) } : VS).deep = (d : Int) + 1 := hr.deep
  exact ⟨_, bindR (s223_ok false hf hF hk hx.lw hdp hd (hp.tal (i := 0) rfl)), hp.fold hd⟩
theorem i_lost (v : ValT) (s : BitVec 32) {f : Int} {k : Nat} {T : TallyT} {F : FoldT} (h : RunTo S t d [] [T] S1) (hd : d < 24) (hf : IsTal f) (hF : FoldR f k T F) (hk : k ≤ 1000000) : ∃ S', s201 n S1 ⟨9, f, v, s⟩ env 24 = some S' ∧ RunTo S t d [] [tak f T (s131 2) true] S' := by
  have hr := h.rdy
  unfold s201
  rw [if_neg (by show ¬ (9 : Int) = 1; decide), if_neg (by show ¬ (9 : Int) = 2; decide), if_neg (by show ¬ (9 : Int) = 3; decide), if_neg (by show ¬ (9 : Int) = 4; decide), if_neg (by show ¬ (9 : Int) = 5; decide), if_neg (by show ¬ (9 : Int) = 6; decide), if_neg (by show ¬ (9 : Int) = 7; decide), if_neg (by show ¬ (9 : Int) = 8; decide), if_pos (by rfl)]
  have hdp : S1.deep = (d : Int) + 1 := hr.deep
  exact ⟨_, bindR (s223_ok true hf hF hk (okv_err (by decide)).lw hdp hd (h.tal (i := 0) rfl)), h.fold hd⟩
theorem i_close (v : ValT) (s : BitVec 32) {f : Int} {T : TallyT} (h : RunTo S t d [] [T] S1) (ht : t < 24) (hd : d < 24) : ∃ S', s201 n S1 ⟨10, f, v, s⟩ env 24 = some S' ∧ RunTo S t d [shut f T] [] S' := by
  have hr := h.rdy
  unfold s201
  rw [if_neg (by show ¬ (10 : Int) = 1; decide), if_neg (by show ¬ (10 : Int) = 2; decide), if_neg (by show ¬ (10 : Int) = 3; decide), if_neg (by show ¬ (10 : Int) = 4; decide), if_neg (by show ¬ (10 : Int) = 5; decide), if_neg (by show ¬ (10 : Int) = 6; decide), if_neg (by show ¬ (10 : Int) = 7; decide), if_neg (by show ¬ (10 : Int) = 8; decide), if_neg (by show ¬ (10 : Int) = 9; decide), if_pos (by rfl)]
  have hdp : S1.deep = (d : Int) + 1 := hr.deep
  rw [bindT (s225_ok hdp hd (h.tal (i := 0) rfl))]
  have hp : Rdy { S1 with deep := (d : Int) } t d := ⟨hr.top, rfl, hr.st, hr.fo⟩
  obtain ⟨S', e, h2⟩ := s219_ok hp ht (shut f T)
  refine ⟨S', bindR e, ?_⟩
  obtain ⟨st, fo, rfl, a1, a2, a3, a4, a5, a6⟩ := h
  obtain ⟨st', fo', rfl, b1, b2, b3, b4, b5, b6⟩ := h2
  refine ⟨st', fo', rfl, b1, b2, ?_, b4, ?_, b6⟩
  · intro i hi; rw [b3 i hi]; exact a3 i hi
  · intro i hi; rw [b5 i hi]; exact a5 i hi
end
theorem exec_one {n : Nat} {env : List ValT} {x : InstrT} {S S' : VS} (h : s201 n S x env 24 = some S') : exec n env [x] S = some S' := by
  show (s201 n S x env 24).bind (fun S => some S) = _
  exact bindR h
theorem Run.one {env : List ValT} {x : InstrT} {lo : Nat} {xs : List ValT} {fs : List TallyT} (h : ∀ n, 1000 ≤ n → ∀ (S : VS) (t d : Nat), Rdy S t d → t ≤ lo → d ≤ lo → ∃ S', s201 n S x env 24 = some S' ∧ RunTo S t d xs fs S') : Run env [x] lo xs fs := by
  intro n hn S t d hr ht hd
  obtain ⟨S', e, h2⟩ := h n hn S t d hr ht hd
  exact ⟨S', exec_one e, h2⟩
/-- One more instruction behind a program. -/
theorem Run.snoc {env : List ValT} {P : List InstrT} {x : InstrT} {lo : Nat} {xs ys : List ValT} {fs gs : List TallyT} (h : Run env P lo xs fs) (hx : ∀ n, 1000 ≤ n → ∀ (S S1 : VS) (t d : Nat), RunTo S t d xs fs S1 → t ≤ lo → d ≤ lo → ∃ S', s201 n S1 x env 24 = some S' ∧ RunTo S t d ys gs S') : Run env (P ++ [x]) lo ys gs := by
  intro n hn S t d hr ht hd
  obtain ⟨S1, e1, h1⟩ := h n hn S t d hr ht hd
  obtain ⟨S2, e2, h2⟩ := hx n hn S S1 t d h1 ht hd
  exact ⟨S2, by rw [exec_app, bindT e1]; exact exec_one e2, h2⟩
/-- Two programs, one behind the other. -/
theorem Run.app {env : List ValT} {P Q : List InstrT} {lo a : Nat} {xs ys : List ValT} {fs gs : List TallyT} (h : Run env P lo xs fs) (h2 : Run env Q a ys gs) (h3 : lo + xs.length ≤ a) (h4 : lo + fs.length ≤ a) : Run env (P ++ Q) lo (xs ++ ys) (fs ++ gs) := by
  intro n hn S t d hr ht hd
  obtain ⟨S1, e1, r1⟩ := h n hn S t d hr ht hd
  obtain ⟨S2, e2, r2⟩ := h2 n hn S1 (t + xs.length) (d + fs.length) r1.rdy (by omega) (by omega)
  exact ⟨S2, by rw [exec_app, bindT e1]; exact e2, r1.trans r2⟩
theorem get_lt2 {ns : List NodeT} {v : Nat} {x : NodeT} (h : ns[v]? = some x) : v < ns.length := (List.getElem?_eq_some_iff.1 h).1
theorem getNd {ns : List NodeT} {v : Nat} {x : NodeT} {z : Int} (h : ns[v]? = some x) (hz : z = v) : getN ns ns.length z = some x := by
  have := get_lt2 h
  subst hz
  exact getT (by omega) (by omega) (by rw [Int.toNat_natCast]; exact h)
theorem CmpTo.fields {S S' : VS} {P : List InstrT} {lo v : Nat} (h : CmpTo S P lo v S') : S'.code.length = 48 ∧ S'.owner.length = 24 ∧ S'.start = S.start - P.length ∧ (∀ i, (i < lo ∨ v < i) → S'.owner[i]? = S.owner[i]?) := by
  obtain ⟨C, O, rfl, c2, c3, c4, c5⟩ := h
  exact ⟨c2, c3, rfl, c5⟩
/-- A leaf that pushes. -/
theorem cv_leaf {ns : List NodeT} {v : Nat} {x : NodeT} {i : InstrT} (hlen : ns.length ≤ 24) (hx : ns[v]? = some x)
    (hi : WfI i) (hrd : i.set = rdN x)
    (hc : ∀ n, 1000 ≤ n → ∀ (g : Nat) (S : VS), l153_3 n ns ns.length (g + 1) (v : Int) S = (s196 S i.do_ i.a i.v i.set).bind fun r => k153_2 (v : Int) (l153_3 n ns ns.length g) r)
    (hrun : ∀ env : List ValT, env.length = 24 → (∀ x ∈ env, Okv x) → ∃ x, Okv x ∧ ValAt ns env v x ∧ ∀ n, 1000 ≤ n → ∀ (S : VS) (t d : Nat), Rdy S t d → t < 24 → ∃ S', s201 n S i env 24 = some S' ∧ RunTo S t d [x] [] S') : CV ns v v [i] := by
  have hv := get_lt2 hx
  refine ⟨by simp, ?_, ?_, ?_, ?_⟩
  · intro n hn g S h1 h2 h3 h4
    obtain ⟨S', e, h⟩ := s196_ok (e := (S.start - 1).toNat) i.do_ i.a i.v i.set (by omega) (by omega) h1 h2
    refine ⟨S', ?_, ?_⟩
    · obtain ⟨C, O, r1, r2, r3, r4, r5⟩ := h
      exact ⟨C, O, r1, r2, r3, r4, fun j _ => r5 j (by omega)⟩
    · rw [show g + (v + 1 - v) = g + 1 by omega, hc n hn, bindT e, k153_ok (by omega)]
  · intro y hy
    rw [List.mem_singleton.1 hy]; exact hi
  · rw [seg_one hx]
    show i.set ||| 0 = rdN x ||| 0
    rw [hrd]
  · intro env h1 h2
    obtain ⟨x, e1, e2, e3⟩ := hrun env h1 h2
    exact ⟨x, e1, e2, Run.one fun n hn S t d hr ht hd => e3 n hn S t d hr (by omega)⟩
theorem cv_num {ns : List NodeT} {v : Nat} {x : NodeT} (hlen : ns.length ≤ 24) (hx : ns[v]? = some x) (hk : x.kind = 1) (h0 : 0 ≤ x.n) (h9 : x.n ≤ 999999999) : ∃ P, CV ns v v P := by
  refine ⟨_, cv_leaf (i := ⟨1, 0, ⟨1, x.n, []⟩, 0⟩) hlen hx (fun h => by simp at h) (by unfold rdN; rw [if_neg (by omega), if_neg (by omega)]) ?_ ?_⟩
  · intro n hn g S
    rw [l153_at S hx, if_pos hk]
  · intro env _ _
    refine ⟨s200 x.n, okv_num (by omega), ?_, ?_⟩
    · intro n g hn hg
      obtain ⟨g, rfl⟩ : ∃ g', g = g' + 1 := ⟨g - 1, by omega⟩
      apply rc204_at g hx
      unfold s204_b
      rw [bindT (getNd hx rfl), if_pos hk]
    · intro n hn S t d hr ht
      exact i_push _ _ _ hr ht
theorem cv_tru {ns : List NodeT} {v : Nat} {x : NodeT} (hlen : ns.length ≤ 24) (hx : ns[v]? = some x) (hk : x.kind = 2) (h0 : 0 ≤ x.n) (h9 : x.n ≤ 1) : ∃ P, CV ns v v P := by
  refine ⟨_, cv_leaf (i := ⟨1, 0, ⟨3, x.n, []⟩, 0⟩) hlen hx (fun h => by simp at h) (by unfold rdN; rw [if_neg (by omega), if_neg (by omega)]) ?_ ?_⟩
  · intro n hn g S
    rw [l153_at S hx, if_neg (by omega), if_pos hk]
  · intro env _ _
    refine ⟨⟨3, x.n, []⟩, ?_, ?_, ?_⟩
    · have : x.n = 0 ∨ x.n = 1 := by omega
      rcases this with h | h <;> (rw [h]; rfl)
    · intro n g hn hg
      obtain ⟨g, rfl⟩ : ∃ g', g = g' + 1 := ⟨g - 1, by omega⟩
      apply rc204_at g hx
      unfold s204_b
      rw [bindT (getNd hx rfl), if_neg (by omega), if_pos hk]
    · intro n hn S t d hr ht
      exact i_push _ _ _ hr ht
theorem cv_err {ns : List NodeT} {v : Nat} {x : NodeT} (hlen : ns.length ≤ 24) (hx : ns[v]? = some x) (hk : x.kind = 5) : ∃ P, CV ns v v P := by
  refine ⟨_, cv_leaf (i := ⟨1, 0, ⟨4, 2, []⟩, 0⟩) hlen hx (fun h => by simp at h) (by unfold rdN; rw [if_neg (by omega), if_neg (by omega)]) ?_ ?_⟩
  · intro n hn g S
    rw [l153_at S hx, if_neg (by omega), if_neg (by omega), if_pos hk]
  · intro env _ _
    refine ⟨s131 2, okv_err (by decide), ?_, ?_⟩
    · intro n g hn hg
      obtain ⟨g, rfl⟩ : ∃ g', g = g' + 1 := ⟨g - 1, by omega⟩
      apply rc204_at g hx
      unfold s204_b
      rw [bindT (getNd hx rfl), if_neg (by omega), if_neg (by omega), if_neg (by omega), if_neg (by omega), if_neg (by omega), if_neg (by omega)]
    · intro n hn S t d hr ht
      exact i_push _ _ _ hr ht
theorem cv_ref {ns : List NodeT} {v : Nat} {x : NodeT} (hlen : ns.length ≤ 24) (hx : ns[v]? = some x) (hk : x.kind = 3) : ∃ P, CV ns v v P := by
  by_cases hg : s116 x.r1 = true
  · obtain ⟨g1, g2, g3, g4⟩ := s116_iff.1 hg
    have h217 : s217 x.r1 = some (x.r1.row * 4 + x.r1.col) := by
      unfold s217
      rw [ckF (by constructor <;> omega), ckF (by constructor <;> omega)]
    obtain ⟨c, hc⟩ : ∃ c : Nat, x.r1.row * 4 + x.r1.col = (c : Int) := ⟨(x.r1.row * 4 + x.r1.col).toNat, by omega⟩
    have hc24 : c < 24 := by omega
    refine ⟨_, cv_leaf (i := ⟨2, (c : Int), ⟨0, 0, []⟩, s92 (c : Int)⟩) hlen hx (fun h => ⟨c, rfl, hc24, by rw [s92_bit hc24]; simp⟩) (by unfold rdN; rw [if_pos hk, if_pos hg, hc]) ?_ ?_⟩
    · intro n hn g S
      rw [l153_at S hx, if_neg (by omega), if_neg (by omega), if_neg (by omega), if_pos hk]
      unfold s197
      rw [if_pos hg, bindT h217, hc]
      cases s196 S 2 (c : Int) ⟨0, 0, []⟩ (s92 (c : Int)) <;> rfl
    · intro env hl he
      have hce : c < env.length := by omega
      refine ⟨env[c]'hce, he _ (List.getElem_mem hce), ?_, ?_⟩
      · intro n g hn hgv
        obtain ⟨g, rfl⟩ : ∃ g', g = g' + 1 := ⟨g - 1, by omega⟩
        apply rc204_at g hx
        unfold s204_b
        rw [bindT (getNd hx rfl), if_neg (by omega), if_neg (by omega), if_pos hk, if_pos hg, bindT h217, hc]
        rw [bindT (getT (x := env[c]'hce) (by omega) (by omega) (by rw [Int.toNat_natCast]; exact getL hce))]
      · intro n hn S t d hr ht
        exact i_cell _ _ hl (getL hce) hr ht
  · refine ⟨_, cv_leaf (i := ⟨1, 0, ⟨4, 2, []⟩, 0⟩) hlen hx (fun h => by simp at h) (by unfold rdN; rw [if_pos hk, if_neg hg]) ?_ ?_⟩
    · intro n hn g S
      rw [l153_at S hx, if_neg (by omega), if_neg (by omega), if_neg (by omega), if_pos hk]
      unfold s197
      rw [if_neg hg]
      cases s196 S 1 0 ⟨4, 2, []⟩ 0 <;> rfl
    · intro env _ _
      refine ⟨s131 2, okv_err (by decide), ?_, ?_⟩
      · intro n g hn hgv
        obtain ⟨g, rfl⟩ : ∃ g', g = g' + 1 := ⟨g - 1, by omega⟩
        apply rc204_at g hx
        unfold s204_b
        rw [bindT (getNd hx rfl), if_neg (by omega), if_neg (by omega), if_pos hk, if_neg hg]
      · intro n hn S t d hr ht
        exact i_push _ _ _ hr ht
end Go.Proofs.Qxb6500272aGreat
