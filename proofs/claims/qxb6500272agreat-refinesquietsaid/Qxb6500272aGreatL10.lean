/-
  Plain laws, the parser: the model's reader answers as the descent does.
-/
import Derived.Test.Qxb6500272aGreatL9
namespace Go.Proofs.Qxb6500272aGreat
open Go
set_option linter.unusedVariables false
set_option linter.unusedSimpArgs false

def rds (s : List UInt8) (i : Nat) (ns : List NodeT) (e p : Int) : RDS := ⟨s, (i : Int), ns, e, p⟩
/-- The reader's answer o is the descent's answer x. -/
def RR (s : List UInt8) (P : Nat → Prop) (x : DRes) (o : Option (RDS × Int)) : Prop :=
  match x with
  | .ok (v, j, ns) => j ≤ s.length ∧ P j ∧ o = some (rds s j ns 0 0, v)
  | .error (e, p) => e ≠ 0 ∧ ∃ (i : Nat) (ns : List NodeT) (v : Int), i ≤ s.length ∧ o = some (rds s i ns e p, v)
section
variable {s : List UInt8} {n_ : Nat}
theorem RR.err {P : Nat → Prop} {e p : Int} {o : Option (RDS × Int)} (he : e ≠ 0) (i : Nat) (ns : List NodeT) (v : Int) (hi : i ≤ s.length) (h : o = some (rds s i ns e p, v)) : RR s P (.error (e, p)) o := ⟨he, i, ns, v, hi, h⟩
theorem rlook (hs : s.length ≤ 40) (hn : 1000 ≤ n_) {i : Nat} (hi : i ≤ s.length) (ns : List NodeT) (h : (tok s i).kind ≠ 1) : s145 n_ (rds s i ns 0 0) = some (rds s (skip s i) ns 0 0, ch s i) := by
  rw [s145_ok (i := i) (by show s.length ≤ 1100; omega) (by show s.length < n_; omega) (by exact hi) rfl]
  have v := (tok_view s i).2.2.2.1
  unfold lookR
  rw [if_pos (show (rds s i ns 0 0).err = 0 from rfl)]
  show some (if skip s i < s.length then if s189 (bt s (skip s i)) = true then (_, bt s (skip s i)) else _ else _) = _
  by_cases hl : skip s i < s.length
  · have hc : ch s i = bt s (skip s i) := by unfold ch; rw [if_pos hl]
    rw [if_pos hl, if_pos (by
      rw [← hc]
      by_cases h9 : s189 (ch s i) = true
      · exact h9
      · exact absurd (v.2 ⟨hl, h9⟩) h), hc]
    rfl
  · have hc : ch s i = 0 := by unfold ch; rw [if_neg hl]
    rw [if_neg hl, hc]
    rfl
theorem rlook1 (hs : s.length ≤ 40) (hn : 1000 ≤ n_) {i : Nat} (hi : i ≤ s.length) (ns : List NodeT) (h : (tok s i).kind = 1) : s145 n_ (rds s i ns 0 0) = some (rds s (skip s i) ns 2 (skip s i : Nat), 0) := by
  rw [s145_ok (i := i) (by show s.length ≤ 1100; omega) (by show s.length < n_; omega) (by exact hi) rfl]
  obtain ⟨v1, v2⟩ := (tok_view s i).2.2.2.1.1 h
  unfold lookR
  rw [if_pos (show (rds s i ns 0 0).err = 0 from rfl)]
  show some (if skip s i < s.length then if s189 (bt s (skip s i)) = true then (_, bt s (skip s i)) else _ else _) = _
  have hc : ch s i = bt s (skip s i) := by unfold ch; rw [if_pos v1]
  rw [if_pos v1, if_neg (by rw [← hc]; exact v2)]
  rfl
theorem rlookE (hs : s.length ≤ 40) (hn : 1000 ≤ n_) {i : Nat} (hi : i ≤ s.length) (ns : List NodeT) {e p : Int} (he : e ≠ 0) : s145 n_ (rds s i ns e p) = some (rds s (skip s i) ns e p, 0) := by
  rw [s145_ok (i := i) (by show s.length ≤ 1100; omega) (by show s.length < n_; omega) (by exact hi) rfl]
  unfold lookR
  rw [if_neg (show ¬ (rds s i ns e p).err = 0 from he)]
  rfl
theorem raddE {i : Nat} {ns : List NodeT} {e p : Int} (he : e ≠ 0) (x : NodeT) : s188 (rds s i ns e p) x = some (rds s i ns e p, -1) := by
  unfold s188
  rw [if_neg (show ¬ (rds s i ns e p).err = 0 from he)]
theorem rfailE {i : Nat} {ns : List NodeT} {e p : Int} (he : e ≠ 0) (a b : Int) : s146 (rds s i ns e p) a b = (rds s i ns e p, -1) := by
  unfold s146
  rw [if_neg (show ¬ (rds s i ns e p).err = 0 from he)]
theorem rfail {i : Nat} {ns : List NodeT} (a b : Int) : s146 (rds s i ns 0 0) a b = (rds s i ns a b, -1) := by
  unfold s146
  rw [if_pos (show (rds s i ns 0 0).err = 0 from rfl)]
  rfl
theorem radd (P : Nat → Prop) {i : Nat} (hi : i ≤ s.length) (hp : P i) (ns : List NodeT) (x : NodeT) : RR s P (addD ns i x) (s188 (rds s i ns 0 0) x) := by
  unfold addD s188
  rw [if_pos (show (rds s i ns 0 0).err = 0 from rfl)]
  by_cases h : 24 ≤ ns.length
  · rw [if_pos h, if_pos (by show (24 : Int) ≤ (ns.length : Int); omega)]
    refine RR.err (by decide) i ns (-1) hi ?_
    rw [show (rds s i ns 0 0).i = (i : Int) from rfl, rfail]
  · rw [if_neg h, if_neg (by show ¬ (24 : Int) ≤ (ns.length : Int); omega)]
    exact ⟨hi, hp, rfl⟩
theorem RR.cases {P : Nat → Prop} {x : DRes} {o : Option (RDS × Int)} (h : RR s P x o) : (∃ e p i ns v, x = .error (e, p) ∧ e ≠ 0 ∧ i ≤ s.length ∧ o = some (rds s i ns e p, v)) ∨ (∃ v j ns, x = .ok (v, j, ns) ∧ j ≤ s.length ∧ P j ∧ o = some (rds s j ns 0 0, v)) := by
  match x with
  | .error (e, p) => obtain ⟨he, i, ns, v, hi, ho⟩ := h; exact .inl ⟨e, p, i, ns, v, rfl, he, hi, ho⟩
  | .ok (v, j, ns) => obtain ⟨h1, h2, h3⟩ := h; exact .inr ⟨v, j, ns, rfl, h1, h2, h3⟩
def OK1 (s : List UInt8) (j : Nat) : Prop := skip s j = j ∧ (tok s j).kind ≠ 1
def Any (_ : Nat) : Prop := True
structure RAll (s : List UInt8) (n_ m : Nat) : Prop where
  expr : ∀ (r : Bool) (i : Nat) (ns : List NodeT) (x : DRes) (f : Nat), i ≤ s.length → D s m (.expr r) i ns = some x → 2 * m + 2 ≤ f → RR s (OK1 s) x ((rc144 n_ f).1 (rds s i ns 0 0) r)
  chain2 : ∀ (r : Bool) (i : Nat) (ns : List NodeT) (x : DRes) (f : Nat), i ≤ s.length → D s m (.chain2 r) i ns = some x → 2 * m + 2 ≤ f → RR s (OK1 s) x ((rc144 n_ f).2.1 (rds s i ns 0 0) 2 r)
  loop2 : ∀ (a : Int) (i : Nat) (ns : List NodeT) (x : DRes) (f lf : Nat), i ≤ s.length → D s m (.loop2 a) i ns = some x → 2 * m + 2 ≤ f → m < lf → RR s (OK1 s) x (l186_8 n_ (rc144 n_ f).2.1 (rc144 n_ f).2.2.1 2 lf a (rds s i ns 0 0))
  chain3 : ∀ (r : Bool) (i : Nat) (ns : List NodeT) (x : DRes) (f : Nat), i ≤ s.length → D s m (.chain3 r) i ns = some x → 2 * m + 2 ≤ f → RR s (OK1 s) x ((rc144 n_ f).2.1 (rds s i ns 0 0) 3 r)
  loop3 : ∀ (a : Int) (i : Nat) (ns : List NodeT) (x : DRes) (f lf : Nat), i ≤ s.length → D s m (.loop3 a) i ns = some x → 2 * m + 2 ≤ f → m < lf → RR s (OK1 s) x (l186_8 n_ (rc144 n_ f).2.1 (rc144 n_ f).2.2.1 3 lf a (rds s i ns 0 0))
  unary : ∀ (r : Bool) (i : Nat) (ns : List NodeT) (x : DRes) (f : Nat), i ≤ s.length → D s m (.unary r) i ns = some x → 2 * m + 2 ≤ f → RR s Any x ((rc144 n_ f).2.2.1 (rds s i ns 0 0) r)
  atom : ∀ (r : Bool) (i : Nat) (ns : List NodeT) (x : DRes) (f : Nat), i ≤ s.length → D s m (.atom r) i ns = some x → 2 * m + 2 ≤ f → RR s Any x ((rc144 n_ f).2.2.2.1 (rds s i ns 0 0) r)
  args : ∀ (fn p n l : Int) (i : Nat) (ns : List NodeT) (x : DRes) (f lf : Nat), i ≤ s.length → D s m (.args fn p n l) i ns = some x → 2 * m + 2 ≤ f + 1 → m ≤ lf → 0 ≤ n → n + m ≤ 1000000 → RR s Any x (l245_2 n_ (rc144 n_ f).1 fn p lf l n (rds s i ns 0 0))
variable {m : Nat}
/-- The loop over operators of one strength, at its end. -/
theorem loopE {q : RDS → Int → Bool → Option (RDS × Int)} {u : RDS → Bool → Option (RDS × Int)} {z : Int} {lf : Nat} {a : Int} {i : Nat} {ns : List NodeT} {e p : Int} (he : e ≠ 0) (hl : 1 ≤ lf) : l186_8 n_ q u z lf a (rds s i ns e p) = some (rds s i ns e p, -1) := by
  obtain ⟨lf, rfl⟩ : ∃ k, lf = k + 1 := ⟨lf - 1, by omega⟩
  show l186_8_st n_ q u z (l186_8 n_ q u z lf) a (rds s i ns e p) = _
  unfold l186_8_st
  rw [if_neg (show ¬ (rds s i ns e p).err = 0 from he)]
theorem opOf_iff (c d : Int) : (opOf c d = 7 ↔ c = 43) ∧ (opOf c d = 8 ↔ c = 45) ∧ (opOf c d = 9 ↔ c = 42) ∧ (opOf c d = 10 ↔ c = 47) ∧ ((1 ≤ opOf c d ∧ opOf c d ≤ 6) ↔ c = 61 ∨ c = 60 ∨ c = 62) := by
  unfold opOf
  by_cases h1 : c = 43
  · rw [if_pos h1]; omega
  rw [if_neg h1]
  by_cases h2 : c = 45
  · rw [if_pos h2]; omega
  rw [if_neg h2]
  by_cases h3 : c = 42
  · rw [if_pos h3]; omega
  rw [if_neg h3]
  by_cases h4 : c = 47
  · rw [if_pos h4]; omega
  rw [if_neg h4]
  by_cases h5 : c = 61
  · rw [if_pos h5]; omega
  rw [if_neg h5]
  by_cases h6 : c = 60
  · rw [if_pos h6]
    by_cases h7 : d = 61
    · rw [if_pos h7]; omega
    rw [if_neg h7]
    by_cases h8 : d = 62
    · rw [if_pos h8]; omega
    rw [if_neg h8]; omega
  rw [if_neg h6]
  by_cases h7 : c = 62
  · rw [if_pos h7]
    by_cases h8 : d = 61
    · rw [if_pos h8]; omega
    rw [if_neg h8]; omega
  rw [if_neg h7]; omega
theorem op_iff {i : Nat} {q : Int} (hq : q ≠ 0) : ((tok s i).kind = 6 ∧ (tok s i).n = q) ↔ opOf (ch s i) (nx s i) = q := by
  obtain ⟨v1, v2, _⟩ := tok_view s i
  constructor
  · rintro ⟨h1, h2⟩; rw [← (v1 h1).1]; exact h2
  · intro h
    have := v2 (by rw [h]; exact hq)
    exact ⟨this.1, by rw [(v1 this.1).1]; exact h⟩
/-- The end of a sign that is one byte. -/
theorem op_end {i : Nat} (hi : i ≤ s.length) (h : (tok s i).kind = 6) : (tok s i).end_.toNat = skip s i + (opLen (ch s i) (nx s i)).toNat ∧ skip s i + (opLen (ch s i) (nx s i)).toNat ≤ s.length := by
  obtain ⟨e, he, het, h1, h2, h3⟩ := tok_end hi (by rw [h]; decide)
  obtain ⟨v1, v2, _⟩ := tok_view s i
  have := (v2 (v1 h).2).2
  have hl : opLen (ch s i) (nx s i) = 1 ∨ opLen (ch s i) (nx s i) = 2 := by unfold opLen; split <;> simp
  omega
theorem opLen_1 {c d : Int} (h : c ≠ 60 ∧ c ≠ 62) : opLen c d = 1 := by
  unfold opLen
  rw [if_neg (by omega)]
theorem op_end1 {i : Nat} (hi : i ≤ s.length) (h : (tok s i).kind = 6) (hc : ch s i ≠ 60 ∧ ch s i ≠ 62) : (tok s i).end_.toNat = skip s i + 1 ∧ skip s i + 1 ≤ s.length := by
  have := op_end hi h
  rw [opLen_1 hc] at this
  exact this
theorem RR.bind {P Q : Nat → Prop} {o : Option DRes} {x : DRes} {oo : Option (RDS × Int)} {k : Int → Nat → List NodeT → Option DRes} {K : RDS × Int → Option (RDS × Int)} (d : bindD o k = some x)
    (h : ∀ y, o = some y → RR s P y oo) (hE : ∀ (e p : Int) (i : Nat) (ns : List NodeT) (v : Int), e ≠ 0 → i ≤ s.length → ∃ (i' : Nat) (ns' : List NodeT) (v' : Int), i' ≤ s.length ∧ K (rds s i ns e p, v) = some (rds s i' ns' e p, v'))
    (hK : ∀ (v : Int) (j : Nat) (ns : List NodeT), j ≤ s.length → P j → k v j ns = some x → RR s Q x (K (rds s j ns 0 0, v))) : RR s Q x (oo.bind K) := by
  rcases bindD_some d with ⟨e, p, d1, rfl⟩ | ⟨v, j, ns1, d1, d2⟩
  · rcases (h _ d1).cases with ⟨e', p', i2, ns2, v2, q1, q2, q3, q4⟩ | ⟨v2, j2, ns2, q1, _⟩
    · injection q1 with q1
      injection q1 with q1 q1'
      subst q1 q1'
      rw [bindT q4]
      obtain ⟨i3, ns3, v3, g1, g2⟩ := hE e p i2 ns2 v2 q2 q3
      exact RR.err q2 _ _ _ g1 g2
    · cases q1
  · rcases (h _ d1).cases with ⟨e', p', i2, ns2, v2, q1, _⟩ | ⟨v2, j2, ns2, q1, q2, q3, q4⟩
    · cases q1
    · injection q1 with q1
      injection q1 with q5 q1
      injection q1 with q6 q7
      subst q5 q6 q7
      rw [bindT q4]
      exact hK _ _ _ q2 q3 d2
theorem c_end {i : Nat} (hi : i ≤ s.length) {k : Int} (hk : k = 40 ∨ k = 41 ∨ k = 44 ∨ k = 58) (h : (tok s i).kind = k) : (tok s i).end_.toNat = skip s i + 1 ∧ skip s i + 1 ≤ s.length := by
  obtain ⟨e, he, het, h1, h2, h3⟩ := tok_end hi (by omega)
  obtain ⟨_, _, v3, _⟩ := tok_view s i
  have := (v3 k hk).2 (((v3 k hk).1).1 h)
  omega
theorem rstep {i : Nat} {ns : List NodeT} {e p : Int} (k : Nat) : ({ rds s i ns e p with i := (rds s i ns e p).i + (k : Int) } : RDS) = rds s (i + k) ns e p := rfl
/-- An atom's reading where a fault is. -/
theorem atomE (hs : s.length ≤ 40) (hn : 1000 ≤ n_) {f : Nat} (hf : 1 ≤ f) {i : Nat} (hi : i ≤ s.length) (ns : List NodeT) {e p : Int} (he : e ≠ 0) (r : Bool) : (rc144 n_ f).2.2.2.1 (rds s i ns e p) r = some (rds s (skip s i) ns e p, -1) := by
  obtain ⟨f, rfl⟩ : ∃ k, f = k + 1 := ⟨f - 1, by omega⟩
  show s231_b n_ (rc144 n_ f).1 (rc144 n_ f).2.1 (rc144 n_ f).2.2.1 (rc144 n_ f).2.2.2.1 (rc144 n_ f).2.2.2.2.1 (rc144 n_ f).2.2.2.2.2 (rds s i ns e p) r = _
  unfold s231_b
  rw [bindT (rlookE hs hn hi ns he)]
  rw [if_neg (show ¬ (48 : Int) ≤ 0 by decide), if_neg (show ¬ (65 : Int) ≤ 0 by decide), if_neg (show ¬ (0 : Int) = 36 by decide), if_neg (show ¬ (0 : Int) = 35 by decide), if_neg (show ¬ (0 : Int) = 40 by decide)]
  rw [rfailE he]
theorem ra_unary (A : RAll s n_ m) (hs : s.length ≤ 40) (hn : 1000 ≤ n_) (r : Bool) (i : Nat) (ns : List NodeT) (x : DRes) (f : Nat) (hi : i ≤ s.length) (d : D s (m + 1) (.unary r) i ns = some x) (hf : 2 * (m + 1) + 2 ≤ f) : RR s Any x ((rc144 n_ f).2.2.1 (rds s i ns 0 0) r) := by
  have d : (if (tok s i).kind = 1 then some (.error (2, (skip s i : Nat)))
      else if (tok s i).kind = 6 ∧ (tok s i).n = 8 then bindD (D s m (.unary false) (tok s i).end_.toNat ns) fun v j ns => some (addD ns j (negN v))
      else D s m (.atom r) (skip s i) ns) = some x := d
  obtain ⟨f, rfl⟩ : ∃ k, f = k + 1 := ⟨f - 1, by omega⟩
  have hsk := skip_len s i hi
  show RR s Any x (s216_b n_ (rc144 n_ f).1 (rc144 n_ f).2.1 (rc144 n_ f).2.2.1 (rc144 n_ f).2.2.2.1 (rc144 n_ f).2.2.2.2.1 (rc144 n_ f).2.2.2.2.2 (rds s i ns 0 0) r)
  unfold s216_b
  by_cases c1 : (tok s i).kind = 1
  · rw [if_pos c1] at d
    injection d with d
    subst d
    rw [bindT (rlook1 hs hn hi ns c1), if_neg (show ¬ (0 : Int) = 45 by decide), bindT (atomE hs hn (by omega) hsk ns (by decide) r)]
    exact RR.err (by decide) _ _ _ (skip_len s _ hsk) rfl
  rw [if_neg c1] at d
  rw [bindT (rlook hs hn hi ns c1)]
  by_cases c8 : (tok s i).kind = 6 ∧ (tok s i).n = 8
  · have h45 := (opOf_iff _ _).2.1.1 ((op_iff (by decide)).1 c8)
    have he := op_end1 hi c8.1 (by omega)
    rw [if_pos c8, he.1] at d
    rw [if_pos h45, ckF (by show i64ok ((skip s i : Nat) + 1); constructor <;> omega)]
    show RR s Any x (((rc144 n_ f).2.2.1 (rds s (skip s i + 1) ns 0 0) false).bind _)
    refine RR.bind d (fun y hy => A.unary false _ ns y f he.2 hy (by omega)) (fun e p i ns v q1 q2 => ?_) (fun v j ns q1 q2 d2 => ?_)
    · exact ⟨_, _, _, q2, by rw [bindT (raddE q1 _)]⟩
    · injection d2 with d2
      subst d2
      rw [bind_eta]
      exact radd Any q1 trivial _ _
  · rw [if_neg c8] at d
    rw [if_neg (fun h => c8 ((op_iff (by decide)).2 ((opOf_iff _ _).2.1.2 h))), bind_eta]
    exact A.atom r _ ns x f hsk d (by omega)
theorem ra_loop3 (A : RAll s n_ m) (hs : s.length ≤ 40) (hn : 1000 ≤ n_) (a : Int) (i : Nat) (ns : List NodeT) (x : DRes) (f lf : Nat) (hi : i ≤ s.length) (d : D s (m + 1) (.loop3 a) i ns = some x) (hf : 2 * (m + 1) + 2 ≤ f) (hlf : m + 1 < lf) : RR s (OK1 s) x (l186_8 n_ (rc144 n_ f).2.1 (rc144 n_ f).2.2.1 3 lf a (rds s i ns 0 0)) := by
  have d : (if (tok s i).kind = 1 then some (.error (2, (skip s i : Nat)))
      else if (tok s i).kind = 6 ∧ ((tok s i).n = 9 ∨ (tok s i).n = 10) then
        if isR ns a = true then some (.error (3, (skip s i : Nat)))
        else bindD (D s m (.unary false) (tok s i).end_.toNat ns) fun b j ns => bindD (some (addD ns j (binN (tok s i).n a b))) fun v k ns => D s m (.loop3 v) k ns
      else some (.ok (a, skip s i, ns))) = some x := d
  obtain ⟨lf, rfl⟩ : ∃ k, lf = k + 1 := ⟨lf - 1, by omega⟩
  have hsk := skip_len s i hi
  show RR s (OK1 s) x (l186_8_st n_ (rc144 n_ f).2.1 (rc144 n_ f).2.2.1 3 (l186_8 n_ (rc144 n_ f).2.1 (rc144 n_ f).2.2.1 3 lf) a (rds s i ns 0 0))
  unfold l186_8_st
  rw [if_pos (show (rds s i ns 0 0).err = 0 from rfl)]
  by_cases c1 : (tok s i).kind = 1
  · rw [if_pos c1] at d
    injection d with d
    subst d
    rw [bindT (rlook1 hs hn hi ns c1)]
    have e : k186_7 (rc144 n_ f).2.1 (rc144 n_ f).2.2.1 3 a (l186_8 n_ (rc144 n_ f).2.1 (rc144 n_ f).2.2.1 3 lf) (rds s (skip s i) ns 2 (skip s i : Nat), 0) 0 = some (rds s (skip s i) ns 2 (skip s i : Nat), a) := by
      unfold k186_7
      rw [if_pos rfl]
    rw [if_pos rfl, if_neg (show ¬ (0 : Int) = 42 by decide), if_neg (show ¬ (0 : Int) = 47 by decide), if_neg (by decide)]
    rw [e]
    exact RR.err (by decide) _ _ _ hsk rfl
  rw [if_neg c1] at d
  rw [bindT (rlook hs hn hi ns c1)]
  by_cases c3 : (tok s i).kind = 6 ∧ ((tok s i).n = 9 ∨ (tok s i).n = 10)
  · rw [if_pos c3] at d
    have hch : ((tok s i).n = 9 ∧ ch s i = 42) ∨ ((tok s i).n = 10 ∧ ch s i = 47) := by
      rcases c3.2 with h | h
      · exact .inl ⟨h, (opOf_iff _ _).2.2.1.1 ((op_iff (by decide)).1 ⟨c3.1, h⟩)⟩
      · exact .inr ⟨h, (opOf_iff _ _).2.2.2.1.1 ((op_iff (by decide)).1 ⟨c3.1, h⟩)⟩
    have he := op_end1 hi c3.1 (by omega)
    have body : RR s (OK1 s) x (k186_7 (rc144 n_ f).2.1 (rc144 n_ f).2.2.1 3 a (l186_8 n_ (rc144 n_ f).2.1 (rc144 n_ f).2.2.1 3 lf) (rds s (skip s i) ns 0 0, ch s i) (tok s i).n) := by
      unfold k186_7
      rw [if_neg (by omega)]
      have hR : s187 (rds s (skip s i) ns 0 0) a = isR ns a := rfl
      by_cases hr : isR ns a = true
      · rw [if_pos hr] at d
        injection d with d
        subst d
        rw [if_pos (hR.trans hr), show (rds s (skip s i) ns 0 0).i = (skip s i : Nat) from rfl, rfail]
        exact RR.err (by decide) _ _ _ hsk rfl
      · rw [if_neg hr, he.1] at d
        rw [if_neg (by rw [hR]; exact hr), ckF (by show i64ok ((skip s i : Nat) + 1); constructor <;> omega)]
        rw [if_pos rfl]
        show RR s (OK1 s) x (((rc144 n_ f).2.2.1 (rds s (skip s i + 1) ns 0 0) false).bind _)
        refine RR.bind d (fun y hy => A.unary false _ ns y f he.2 hy (by omega)) (fun e p i ns v q1 q2 => ?_) (fun v j ns q1 q2 d2 => ?_)
        · refine ⟨i, ns, -1, q2, ?_⟩
          unfold k186_6
          rw [bindT (raddE q1 _)]
          exact loopE q1 (by omega)
        · unfold k186_6
          refine RR.bind (P := Any) d2 (fun y hy => ?_) (fun e p i ns v q1 q2 => ⟨i, ns, -1, q2, loopE q1 (by omega)⟩) (fun v k ns g1 g2 d3 => A.loop3 v k ns x f lf g1 d3 (by omega) (by omega))
          injection hy with hy
          subst hy
          exact radd Any q1 trivial _ _
    rcases hch with ⟨h1, h2⟩ | ⟨h1, h2⟩
    · rw [h1] at body
      rw [if_pos rfl, if_pos h2]
      exact body
    · rw [h1] at body
      rw [if_pos rfl, if_neg (by show ¬ ch s i = 42; omega), if_pos h2]
      exact body
  · rw [if_neg c3] at d
    injection d with d
    subst d
    have e : k186_7 (rc144 n_ f).2.1 (rc144 n_ f).2.2.1 3 a (l186_8 n_ (rc144 n_ f).2.1 (rc144 n_ f).2.2.1 3 lf) (rds s (skip s i) ns 0 0, ch s i) 0 = some (rds s (skip s i) ns 0 0, a) := by
      unfold k186_7
      rw [if_pos rfl]
    have h1 : ¬ ch s i = 42 := fun h => c3 (by
      have := (op_iff (by decide)).2 ((opOf_iff (ch s i) (nx s i)).2.2.1.2 h)
      exact ⟨this.1, .inl this.2⟩)
    have h2 : ¬ ch s i = 47 := fun h => c3 (by
      have := (op_iff (by decide)).2 ((opOf_iff (ch s i) (nx s i)).2.2.2.1.2 h)
      exact ⟨this.1, .inr this.2⟩)
    rw [if_pos rfl, if_neg h1, if_neg h2, if_neg (by decide)]
    rw [e]
    exact ⟨hsk, ⟨skip_skip s i, by rw [tok_skip]; exact c1⟩, rfl⟩
theorem ra_loop2 (A : RAll s n_ m) (hs : s.length ≤ 40) (hn : 1000 ≤ n_) (a : Int) (i : Nat) (ns : List NodeT) (x : DRes) (f lf : Nat) (hi : i ≤ s.length) (d : D s (m + 1) (.loop2 a) i ns = some x) (hf : 2 * (m + 1) + 2 ≤ f) (hlf : m + 1 < lf) : RR s (OK1 s) x (l186_8 n_ (rc144 n_ f).2.1 (rc144 n_ f).2.2.1 2 lf a (rds s i ns 0 0)) := by
  have d : (if (tok s i).kind = 1 then some (.error (2, (skip s i : Nat)))
      else if (tok s i).kind = 6 ∧ ((tok s i).n = 7 ∨ (tok s i).n = 8) then
        if isR ns a = true then some (.error (3, (skip s i : Nat)))
        else bindD (D s m (.chain3 false) (tok s i).end_.toNat ns) fun b j ns => bindD (some (addD ns j (binN (tok s i).n a b))) fun v k ns => D s m (.loop2 v) k ns
      else some (.ok (a, skip s i, ns))) = some x := d
  obtain ⟨lf, rfl⟩ : ∃ k, lf = k + 1 := ⟨lf - 1, by omega⟩
  have hsk := skip_len s i hi
  show RR s (OK1 s) x (l186_8_st n_ (rc144 n_ f).2.1 (rc144 n_ f).2.2.1 2 (l186_8 n_ (rc144 n_ f).2.1 (rc144 n_ f).2.2.1 2 lf) a (rds s i ns 0 0))
  unfold l186_8_st
  rw [if_pos (show (rds s i ns 0 0).err = 0 from rfl)]
  by_cases c1 : (tok s i).kind = 1
  · rw [if_pos c1] at d
    injection d with d
    subst d
    rw [bindT (rlook1 hs hn hi ns c1)]
    have e : k186_7 (rc144 n_ f).2.1 (rc144 n_ f).2.2.1 2 a (l186_8 n_ (rc144 n_ f).2.1 (rc144 n_ f).2.2.1 2 lf) (rds s (skip s i) ns 2 (skip s i : Nat), 0) 0 = some (rds s (skip s i) ns 2 (skip s i : Nat), a) := by
      unfold k186_7
      rw [if_pos rfl]
    rw [if_neg (by decide), if_pos rfl, if_neg (show ¬ (0 : Int) = 43 by decide), if_neg (show ¬ (0 : Int) = 45 by decide)]
    rw [e]
    exact RR.err (by decide) _ _ _ hsk rfl
  rw [if_neg c1] at d
  rw [bindT (rlook hs hn hi ns c1)]
  by_cases c3 : (tok s i).kind = 6 ∧ ((tok s i).n = 7 ∨ (tok s i).n = 8)
  · rw [if_pos c3] at d
    have hch : ((tok s i).n = 7 ∧ ch s i = 43) ∨ ((tok s i).n = 8 ∧ ch s i = 45) := by
      rcases c3.2 with h | h
      · exact .inl ⟨h, (opOf_iff _ _).1.1 ((op_iff (by decide)).1 ⟨c3.1, h⟩)⟩
      · exact .inr ⟨h, (opOf_iff _ _).2.1.1 ((op_iff (by decide)).1 ⟨c3.1, h⟩)⟩
    have he := op_end1 hi c3.1 (by omega)
    have body : RR s (OK1 s) x (k186_7 (rc144 n_ f).2.1 (rc144 n_ f).2.2.1 2 a (l186_8 n_ (rc144 n_ f).2.1 (rc144 n_ f).2.2.1 2 lf) (rds s (skip s i) ns 0 0, ch s i) (tok s i).n) := by
      unfold k186_7
      rw [if_neg (by omega)]
      have hR : s187 (rds s (skip s i) ns 0 0) a = isR ns a := rfl
      by_cases hr : isR ns a = true
      · rw [if_pos hr] at d
        injection d with d
        subst d
        rw [if_pos (hR.trans hr), show (rds s (skip s i) ns 0 0).i = (skip s i : Nat) from rfl, rfail]
        exact RR.err (by decide) _ _ _ hsk rfl
      · rw [if_neg hr, he.1] at d
        rw [if_neg (by rw [hR]; exact hr), ckF (by show i64ok ((skip s i : Nat) + 1); constructor <;> omega)]
        rw [if_neg (by decide)]
        show RR s (OK1 s) x (((rc144 n_ f).2.1 (rds s (skip s i + 1) ns 0 0) 3 false).bind _)
        refine RR.bind d (fun y hy => A.chain3 false _ ns y f he.2 hy (by omega)) (fun e p i ns v q1 q2 => ?_) (fun v j ns q1 q2 d2 => ?_)
        · refine ⟨i, ns, -1, q2, ?_⟩
          unfold k186_6
          rw [bindT (raddE q1 _)]
          exact loopE q1 (by omega)
        · unfold k186_6
          refine RR.bind (P := Any) d2 (fun y hy => ?_) (fun e p i ns v q1 q2 => ⟨i, ns, -1, q2, loopE q1 (by omega)⟩) (fun v k ns g1 g2 d3 => A.loop2 v k ns x f lf g1 d3 (by omega) (by omega))
          injection hy with hy
          subst hy
          exact radd Any q1 trivial _ _
    rcases hch with ⟨h1, h2⟩ | ⟨h1, h2⟩
    · rw [h1] at body
      rw [if_neg (by decide), if_pos rfl, if_pos h2]
      exact body
    · rw [h1] at body
      rw [if_neg (by decide), if_pos rfl, if_neg (by show ¬ ch s i = 43; omega), if_pos h2]
      exact body
  · rw [if_neg c3] at d
    injection d with d
    subst d
    have e : k186_7 (rc144 n_ f).2.1 (rc144 n_ f).2.2.1 2 a (l186_8 n_ (rc144 n_ f).2.1 (rc144 n_ f).2.2.1 2 lf) (rds s (skip s i) ns 0 0, ch s i) 0 = some (rds s (skip s i) ns 0 0, a) := by
      unfold k186_7
      rw [if_pos rfl]
    have h1 : ¬ ch s i = 43 := fun h => c3 (by
      have := (op_iff (by decide)).2 ((opOf_iff (ch s i) (nx s i)).1.2 h)
      exact ⟨this.1, .inl this.2⟩)
    have h2 : ¬ ch s i = 45 := fun h => c3 (by
      have := (op_iff (by decide)).2 ((opOf_iff (ch s i) (nx s i)).2.1.2 h)
      exact ⟨this.1, .inr this.2⟩)
    rw [if_neg (by decide), if_pos rfl, if_neg h1, if_neg h2]
    rw [e]
    exact ⟨hsk, ⟨skip_skip s i, by rw [tok_skip]; exact c1⟩, rfl⟩
theorem ra_chain3 (A : RAll s n_ m) (hs : s.length ≤ 40) (hn : 1000 ≤ n_) (hm : m ≤ 900) (r : Bool) (i : Nat) (ns : List NodeT) (x : DRes) (f : Nat) (hi : i ≤ s.length) (d : D s (m + 1) (.chain3 r) i ns = some x) (hf : 2 * (m + 1) + 2 ≤ f) : RR s (OK1 s) x ((rc144 n_ f).2.1 (rds s i ns 0 0) 3 r) := by
  have d : bindD (D s m (.unary r) i ns) (fun a i ns => D s m (.loop3 a) i ns) = some x := d
  obtain ⟨f, rfl⟩ : ∃ k, f = k + 1 := ⟨f - 1, by omega⟩
  show RR s (OK1 s) x (s186_b n_ (rc144 n_ f).1 (rc144 n_ f).2.1 (rc144 n_ f).2.2.1 (rc144 n_ f).2.2.2.1 (rc144 n_ f).2.2.2.2.1 (rc144 n_ f).2.2.2.2.2 (rds s i ns 0 0) 3 r)
  unfold s186_b
  rw [if_pos rfl]
  refine RR.bind d (fun y hy => A.unary r _ ns y f hi hy (by omega)) (fun e p i ns v q1 q2 => ⟨i, ns, -1, q2, ?_⟩) (fun v j ns q1 q2 d2 => A.loop3 v j ns x f n_ q1 d2 (by omega) (by omega))
  exact loopE q1 (by omega)
theorem ra_chain2 (A : RAll s n_ m) (hs : s.length ≤ 40) (hn : 1000 ≤ n_) (hm : m ≤ 900) (r : Bool) (i : Nat) (ns : List NodeT) (x : DRes) (f : Nat) (hi : i ≤ s.length) (d : D s (m + 1) (.chain2 r) i ns = some x) (hf : 2 * (m + 1) + 2 ≤ f) : RR s (OK1 s) x ((rc144 n_ f).2.1 (rds s i ns 0 0) 2 r) := by
  have d : bindD (D s m (.chain3 r) i ns) (fun a i ns => D s m (.loop2 a) i ns) = some x := d
  obtain ⟨f, rfl⟩ : ∃ k, f = k + 1 := ⟨f - 1, by omega⟩
  show RR s (OK1 s) x (s186_b n_ (rc144 n_ f).1 (rc144 n_ f).2.1 (rc144 n_ f).2.2.1 (rc144 n_ f).2.2.2.1 (rc144 n_ f).2.2.2.2.1 (rc144 n_ f).2.2.2.2.2 (rds s i ns 0 0) 2 r)
  unfold s186_b
  rw [if_neg (by decide)]
  refine RR.bind d (fun y hy => A.chain3 r _ ns y f hi hy (by omega)) (fun e p i ns v q1 q2 => ⟨i, ns, -1, q2, ?_⟩) (fun v j ns q1 q2 d2 => A.loop2 v j ns x f n_ q1 d2 (by omega) (by omega))
  exact loopE q1 (by omega)
theorem nx_eq {i : Nat} (h : skip s i < s.length) : nx s i = if (rds s (skip s i) [] 0 0).i + 1 < ((rds s (skip s i) [] 0 0).s.length : Int) then ((List.getD s ((skip s i) + 1) 0).toNat : Int) else 0 := by
  unfold nx nxt
  show _ = if ((skip s i : Nat) : Int) + 1 < (s.length : Int) then _ else _
  by_cases h2 : skip s i + 1 < s.length
  · rw [if_pos h2, if_pos (by omega)]; rfl
  · rw [if_neg h2, if_neg (by omega)]
theorem ra_expr (A : RAll s n_ m) (hs : s.length ≤ 40) (hn : 1000 ≤ n_) (hm : m ≤ 900) (r : Bool) (i : Nat) (ns : List NodeT) (x : DRes) (f : Nat) (hi : i ≤ s.length) (d : D s (m + 1) (.expr r) i ns = some x) (hf : 2 * (m + 1) + 2 ≤ f) : RR s (OK1 s) x ((rc144 n_ f).1 (rds s i ns 0 0) r) := by
  have d : bindD (D s m (.chain2 r) i ns) (fun a i ns =>
      if (tok s i).kind = 6 ∧ 1 ≤ (tok s i).n ∧ (tok s i).n ≤ 6 then
        if isR ns a = true then some (.error (3, (skip s i : Nat)))
        else bindD (D s m (.chain2 false) (tok s i).end_.toNat ns) fun b j ns => some (addD ns j (binN (tok s i).n a b))
      else some (.ok (a, i, ns))) = some x := d
  obtain ⟨f, rfl⟩ : ∃ k, f = k + 1 := ⟨f - 1, by omega⟩
  show RR s (OK1 s) x (s144_b n_ (rc144 n_ f).1 (rc144 n_ f).2.1 (rc144 n_ f).2.2.1 (rc144 n_ f).2.2.2.1 (rc144 n_ f).2.2.2.2.1 (rc144 n_ f).2.2.2.2.2 (rds s i ns 0 0) r)
  unfold s144_b
  refine RR.bind d (fun y hy => A.chain2 r _ ns y f hi hy (by omega)) (fun e p i ns v q1 q2 => ?_) (fun a j ns q1 q2 d2 => ?_)
  · refine ⟨skip s i, ns, v, skip_len s i q2, ?_⟩
    rw [bindT (rlookE hs hn q2 ns q1), if_neg (show ¬ (0 : Int) = 61 by decide), if_neg (show ¬ (0 : Int) = 60 by decide), if_neg (show ¬ (0 : Int) = 62 by decide)]
  · obtain ⟨hsk, c1⟩ := q2
    have hl := rlook hs hn q1 ns c1
    rw [hsk] at hl
    rw [bindT hl]
    by_cases c3 : (tok s j).kind = 6 ∧ 1 ≤ (tok s j).n ∧ (tok s j).n ≤ 6
    · rw [if_pos c3] at d2
      have hop := (tok_view s j).1 c3.1
      have hch := (opOf_iff (ch s j) (nx s j)).2.2.2.2.1 (by rw [← hop.1]; exact c3.2)
      have hend := op_end q1 c3.1
      have hlt : skip s j < s.length := by
        rcases Nat.lt_or_ge (skip s j) s.length with h | h
        · exact h
        · exfalso
          have : ch s j = 0 := by unfold ch; rw [if_neg (by omega)]
          omega
      have hn1 := nx_eq hlt
      rw [hsk] at hn1 hend hlt
      have body : ∀ (o len : Int), o = (tok s j).n → len = opLen (ch s j) (nx s j) → isR ns a = false → RR s (OK1 s) x (k144_0 (rc144 n_ f).2.1 (rds s j ns 0 0, a) (rds s j ns 0 0, ch s j) o len) := by
        intro o len ho hle hr
        rw [if_neg (by rw [hr]; decide), hend.1] at d2
        have h12 : opLen (ch s j) (nx s j) = 1 ∨ opLen (ch s j) (nx s j) = 2 := by unfold opLen; split <;> simp
        have hp : ({ (rds s j ns 0 0) with i := (rds s j ns 0 0).i + len } : RDS) = rds s (j + (opLen (ch s j) (nx s j)).toNat) ns 0 0 := by
          unfold rds
          have : (j : Int) + len = ((j + (opLen (ch s j) (nx s j)).toNat : Nat) : Int) := by omega
          simp only [this]
        unfold k144_0
        rw [ckF (by show i64ok ((j : Int) + len); constructor <;> omega)]
        show RR s (OK1 s) x (((rc144 n_ f).2.1 ({ (rds s j ns 0 0) with i := (rds s j ns 0 0).i + len } : RDS) 2 false).bind _)
        rw [hp, ho]
        refine RR.bind d2 (fun y hy => A.chain2 false _ ns y f hend.2 hy (by omega)) (fun e p i ns v q1 q2 => ⟨i, ns, -1, q2, by rw [bindT (raddE q1 _)]⟩) (fun b k ns g1 g2 d3 => ?_)
        injection d3 with d3
        subst d3
        rw [bind_eta]
        exact radd (OK1 s) g1 g2 _ _
      have hR : s187 (rds s j ns 0 0) a = isR ns a := rfl
      have fail : isR ns a = true → RR s (OK1 s) x (some ((s146 (rds s j ns 0 0) 3 (rds s j ns 0 0).i).1, (s146 (rds s j ns 0 0) 3 (rds s j ns 0 0).i).2)) := by
        intro hr
        rw [if_pos hr] at d2
        injection d2 with d2
        subst d2
        rw [show (rds s j ns 0 0).i = (j : Nat) from rfl, rfail, hsk]
        exact RR.err (by decide) _ _ _ q1 rfl
      -- the byte behind
      have next : ∀ (K : Int → Option (RDS × Int)), RR s (OK1 s) x (K (nx s j)) → RR s (OK1 s) x (ck (i64ok ((rds s j ns 0 0).i + (1 : Int))) (if ((rds s j ns 0 0).i + (1 : Int)) < ((rds s j ns 0 0).s.length : Int) then
          ck (0 ≤ ((rds s j ns 0 0).i + (1 : Int)) ∧ ((rds s j ns 0 0).i + (1 : Int)) < ((rds s j ns 0 0).s.length : Int)) (K ((List.getD (rds s j ns 0 0).s (Int.toNat ((rds s j ns 0 0).i + (1 : Int))) 0).toNat : Int)) else K 0)) := by
        intro K hK
        rw [ckF (by show i64ok ((j : Int) + 1); constructor <;> omega)]
        show RR s (OK1 s) x (if (j : Int) + 1 < (s.length : Int) then ck (0 ≤ (j : Int) + 1 ∧ (j : Int) + 1 < (s.length : Int)) (K ((List.getD s (Int.toNat ((j : Int) + 1)) 0).toNat : Int)) else K 0)
        have hn1 : nx s j = if (j : Int) + 1 < (s.length : Int) then ((List.getD s (j + 1) 0).toNat : Int) else 0 := hn1
        by_cases hl2 : (j : Int) + 1 < (s.length : Int)
        · rw [if_pos hl2] at hn1 ⊢
          rw [ckF (by omega), show Int.toNat ((j : Int) + 1) = j + 1 by omega, ← hn1]
          exact hK
        · rw [if_neg hl2] at hn1 ⊢
          rw [← hn1]
          exact hK
      rcases hch with h | h | h
      · rw [if_pos h]
        by_cases hr : isR ns a = true
        · rw [if_pos (hR.trans hr)]; exact fail hr
        · rw [if_neg (by rw [hR]; exact hr)]
          refine next (fun y => k144_5 (rc144 n_ f).2.1 (rds s j ns 0 0, a) (rds s j ns 0 0, ch s j) y) ?_
          unfold k144_5
          rw [if_neg (by show ¬ ch s j = 60; omega), if_neg (by show ¬ ch s j = 62; omega)]
          exact body 1 1 (by rw [hop.1, h]; rfl) (opLen_1 (by omega)).symm (by simpa using hr)
      · rw [if_neg (by omega), if_pos h]
        by_cases hr : isR ns a = true
        · rw [if_pos (hR.trans hr)]; exact fail hr
        · rw [if_neg (by rw [hR]; exact hr)]
          refine next (fun y => k144_3 (rc144 n_ f).2.1 (rds s j ns 0 0, a) (rds s j ns 0 0, ch s j) y) ?_
          have o : opOf (ch s j) (nx s j) = if nx s j = 61 then 4 else if nx s j = 62 then 2 else 3 := by rw [h]; rfl
          unfold k144_3
          by_cases h1 : nx s j = 61
          · rw [if_pos h1] at o ⊢
            exact body 4 2 (by rw [hop.1, o]) (by unfold opLen; rw [if_pos (by omega)]) (by simpa using hr)
          · rw [if_neg h1] at o ⊢
            by_cases h2 : nx s j = 62
            · rw [if_pos h2] at o ⊢
              exact body 2 2 (by rw [hop.1, o]) (by unfold opLen; rw [if_pos (by omega)]) (by simpa using hr)
            · rw [if_neg h2] at o ⊢
              exact body 3 1 (by rw [hop.1, o]) (by unfold opLen; rw [if_neg (by omega)]) (by simpa using hr)
      · rw [if_neg (by omega), if_neg (by omega), if_pos h]
        by_cases hr : isR ns a = true
        · rw [if_pos (hR.trans hr)]; exact fail hr
        · rw [if_neg (by rw [hR]; exact hr)]
          refine next (fun y => k144_1 (rc144 n_ f).2.1 (rds s j ns 0 0, a) (rds s j ns 0 0, ch s j) y) ?_
          have o : opOf (ch s j) (nx s j) = if nx s j = 61 then 6 else 5 := by rw [h]; rfl
          unfold k144_1
          by_cases h1 : nx s j = 61
          · rw [if_pos h1] at o ⊢
            exact body 6 2 (by rw [hop.1, o]) (by unfold opLen; rw [if_pos (by omega)]) (by simpa using hr)
          · rw [if_neg h1] at o ⊢
            exact body 5 1 (by rw [hop.1, o]) (by unfold opLen; rw [if_neg (by omega)]) (by simpa using hr)
    · rw [if_neg c3] at d2
      injection d2 with d2
      subst d2
      have hch : ¬ (ch s j = 61 ∨ ch s j = 60 ∨ ch s j = 62) := fun h => c3 (by
        have h6 := (opOf_iff (ch s j) (nx s j)).2.2.2.2.2 h
        have := (tok_view s j).2.1 (by omega)
        exact ⟨this.1, by rw [((tok_view s j).1 this.1).1]; exact h6⟩)
      rw [if_neg (fun h => hch (.inl h)), if_neg (fun h => hch (.inr (.inl h))), if_neg (fun h => hch (.inr (.inr h)))]
      exact ⟨q1, ⟨hsk, c1⟩, rfl⟩
theorem ra_args (A : RAll s n_ m) (hs : s.length ≤ 40) (hn : 1000 ≤ n_) (fn p n l : Int) (i : Nat) (ns : List NodeT) (x : DRes) (f lf : Nat) (hi : i ≤ s.length) (d : D s (m + 1) (.args fn p n l) i ns = some x) (hf : 2 * (m + 1) + 2 ≤ f + 1) (hlf : m + 1 ≤ lf) (h0 : 0 ≤ n) (hb : n + (m + 1 : Nat) ≤ 1000000) : RR s Any x (l245_2 n_ (rc144 n_ f).1 fn p lf l n (rds s i ns 0 0)) := by
  have d : bindD (D s m (.expr (s209 fn)) i ns) (fun a j ns => bindD (some (addD ns j (argN a l))) fun l' j ns =>
      if (tok s j).kind = 44 then D s m (.args fn p (n + 1) l') (tok s j).end_.toNat ns
      else if (tok s j).kind = 41 then
        if s208 fn (n + 1) = true then some (addD ns (tok s j).end_.toNat (callN fn l' (n + 1))) else some (.error (6, p))
      else some (.error (3, (skip s j : Nat)))) = some x := d
  obtain ⟨lf, rfl⟩ : ∃ k, lf = k + 1 := ⟨lf - 1, by omega⟩
  show RR s Any x (l245_2_st n_ (rc144 n_ f).1 fn p (l245_2 n_ (rc144 n_ f).1 fn p lf) l n (rds s i ns 0 0))
  unfold l245_2_st
  rw [if_pos (show (rds s i ns 0 0).err = 0 from rfl)]
  have tail : ∀ (e q : Int) (i : Nat) (ns : List NodeT) (v : Int), e ≠ 0 → i ≤ s.length → (ck (i64ok (n + (1 : Int))) <|
      (s145 n_ (rds s i ns e q, v).1).bind fun r167 =>
      (if r167.2 = (44 : Int) then
      ck (i64ok (r167.1.i + (1 : Int))) <|
        (l245_2 n_ (rc144 n_ f).1 fn p lf (rds s i ns e q, v).2 (n + (1 : Int)) ({ r167.1 with i := r167.1.i + (1 : Int) }))
    else
      (if r167.2 = (41 : Int) then
        ck (i64ok (r167.1.i + (1 : Int))) <|
          (k245_1 fn p (rds s i ns e q, v).2 (n + (1 : Int)) ({ r167.1 with i := r167.1.i + (1 : Int) }))
      else
        some ((s146 r167.1 (3 : Int) r167.1.i).1, (s146 r167.1 (3 : Int) r167.1.i).2)))) = some (rds s (skip s i) ns e q, -1) := by
    intro e q i ns v he hi
    rw [ckF (by constructor <;> omega), bindT (rlookE hs hn hi ns he), if_neg (show ¬ (0 : Int) = 44 by decide), if_neg (show ¬ (0 : Int) = 41 by decide), rfailE he]
  refine RR.bind d (fun y hy => A.expr (s209 fn) _ ns y f hi hy (by omega)) (fun e q i ns v q1 q2 => ?_) (fun a j ns q1 q2 d2 => ?_)
  · refine ⟨skip s i, ns, -1, skip_len s i q2, ?_⟩
    rw [bindT (raddE q1 _)]
    exact tail e q i ns (-1) q1 q2
  · refine RR.bind (P := OK1 s) d2 (fun y hy => ?_) (fun e q i ns v q1 q2 => ⟨skip s i, ns, -1, skip_len s i q2, tail e q i ns v q1 q2⟩) (fun l' k ns g1 g2 d3 => ?_)
    · injection hy with hy
      subst hy
      exact radd (OK1 s) q1 q2 _ _
    · obtain ⟨hsk, c1⟩ := g2
      have hl := rlook hs hn g1 ns c1
      rw [hsk] at hl d3
      obtain ⟨_, _, v3, _⟩ := tok_view s k
      rw [ckF (by constructor <;> omega), bindT hl]
      by_cases c44 : (tok s k).kind = 44
      · have he := c_end g1 (by omega) c44
        rw [hsk] at he
        rw [if_pos c44, he.1] at d3
        rw [if_pos (((v3 44 (by omega)).1).1 c44), ckF (by show i64ok ((k : Int) + 1); constructor <;> omega)]
        exact A.args fn p (n + 1) l' (k + 1) ns x f lf he.2 d3 (by omega) (by omega) (by omega) (by omega)
      · rw [if_neg c44] at d3
        rw [if_neg (fun h => c44 (((v3 44 (by omega)).1).2 h))]
        by_cases c41 : (tok s k).kind = 41
        · have he := c_end g1 (by omega) c41
          rw [hsk] at he
          rw [if_pos c41, he.1] at d3
          rw [if_pos (((v3 41 (by omega)).1).1 c41), ckF (by show i64ok ((k : Int) + 1); constructor <;> omega)]
          show RR s Any x (k245_1 fn p l' (n + 1) (rds s (k + 1) ns 0 0))
          unfold k245_1
          by_cases c8 : s208 fn (n + 1) = true
          · rw [if_pos c8] at d3 ⊢
            injection d3 with d3
            subst d3
            rw [bind_eta]
            exact radd Any he.2 trivial _ _
          · rw [if_neg c8] at d3 ⊢
            injection d3 with d3
            subst d3
            rw [rfail]
            exact RR.err (by decide) _ _ _ he.2 rfl
        · rw [if_neg c41] at d3
          injection d3 with d3
          subst d3
          rw [if_neg (fun h => c41 (((v3 41 (by omega)).1).2 h)), show (rds s k ns 0 0).i = (k : Nat) from rfl, rfail]
          exact RR.err (by decide) _ _ _ g1 rfl
end
end Go.Proofs.Qxb6500272aGreat
