/-
  Plain laws, the parser: recursive descent over the tokens; it ends.
-/
import Derived.Test.Qxb6500272aGreatL0
namespace Go.Proofs.Qxb6500272aGreat
open Go
set_option linter.unusedVariables false
set_option linter.unusedSimpArgs false

abbrev DRes := Except (Int × Int) (Int × Nat × List NodeT)
def addD (ns : List NodeT) (i : Nat) (x : NodeT) : DRes := if 24 ≤ ns.length then .error (7, (i : Int)) else .ok ((ns.length : Int), i, ns ++ [x])
def isR (ns : List NodeT) (a : Int) : Bool := if 0 ≤ a ∧ a < (ns.length : Int) then decide ((ns.getD a.toNat dNode).kind = (4 : Int)) else false
def binN (op a b : Int) : NodeT := ⟨7, op, a, b, 0, dRef, dRef⟩
def negN (a : Int) : NodeT := ⟨6, 0, a, -1, 0, dRef, dRef⟩
def leafN (k n : Int) : NodeT := ⟨k, 0, -1, -1, n, dRef, dRef⟩
def refN (r : RefT) : NodeT := ⟨3, 0, -1, -1, 0, r, dRef⟩
def rangeN (r q : RefT) : NodeT := ⟨4, 0, -1, -1, 0, r, q⟩
def argN (a l : Int) : NodeT := ⟨9, 0, a, l, 0, dRef, dRef⟩
def callN (f l k : Int) : NodeT := ⟨8, f, l, -1, k, dRef, dRef⟩
/-- What of the grammar is due. -/
abbrev Fn : Type := Sum Bool (Sum Bool (Sum Int (Sum Bool (Sum Int (Sum Bool (Sum Bool (Int × Int × Int × Int)))))))
abbrev Fn.expr (r : Bool) : Fn := Sum.inl r
abbrev Fn.chain2 (r : Bool) : Fn := Sum.inr (Sum.inl r)
abbrev Fn.loop2 (a : Int) : Fn := Sum.inr (Sum.inr (Sum.inl a))
abbrev Fn.chain3 (r : Bool) : Fn := Sum.inr (Sum.inr (Sum.inr (Sum.inl r)))
abbrev Fn.loop3 (a : Int) : Fn := Sum.inr (Sum.inr (Sum.inr (Sum.inr (Sum.inl a))))
abbrev Fn.unary (r : Bool) : Fn := Sum.inr (Sum.inr (Sum.inr (Sum.inr (Sum.inr (Sum.inl r)))))
abbrev Fn.atom (r : Bool) : Fn := Sum.inr (Sum.inr (Sum.inr (Sum.inr (Sum.inr (Sum.inr (Sum.inl r))))))
abbrev Fn.args (f at_ n link : Int) : Fn := Sum.inr (Sum.inr (Sum.inr (Sum.inr (Sum.inr (Sum.inr (Sum.inr (f, at_, n, link)))))))
theorem Fn.cs {motive : Fn → Prop} (expr : ∀ r, motive (.expr r)) (chain2 : ∀ r, motive (.chain2 r)) (loop2 : ∀ r, motive (.loop2 r)) (chain3 : ∀ r, motive (.chain3 r)) (loop3 : ∀ r, motive (.loop3 r)) (unary : ∀ r, motive (.unary r)) (atom : ∀ r, motive (.atom r)) (args : ∀ f p n l, motive (.args f p n l)) (fn : Fn) : motive fn := by
  rcases fn with r | r | a | r | a | r | r | ⟨f, p, n, l⟩
  · exact expr r
  · exact chain2 r
  · exact loop2 a
  · exact chain3 r
  · exact loop3 a
  · exact unary r
  · exact atom r
  · exact args f p n l
def bindD (o : Option DRes) (k : Int → Nat → List NodeT → Option DRes) : Option DRes :=
  match o with
  | none => none
  | some (.error e) => some (.error e)
  | some (.ok (v, i, ns)) => k v i ns
/-- Recursive descent over the tokens of s, from place i on; ns: the nodes so far. -/
def D (s : List UInt8) : Nat → Fn → Nat → List NodeT → Option DRes
  | 0, _, _, _ => none
  | m + 1, Sum.inl r, i, ns => bindD (D s m (.chain2 r) i ns) fun a i ns =>
      if (tok s i).kind = 6 ∧ 1 ≤ (tok s i).n ∧ (tok s i).n ≤ 6 then
        if isR ns a = true then some (.error (3, (skip s i : Nat)))
        else bindD (D s m (.chain2 false) (tok s i).end_.toNat ns) fun b j ns => some (addD ns j (binN (tok s i).n a b))
      else some (.ok (a, i, ns))
  | m + 1, Sum.inr (Sum.inl r), i, ns => bindD (D s m (.chain3 r) i ns) fun a i ns => D s m (.loop2 a) i ns
  | m + 1, Sum.inr (Sum.inr (Sum.inl a)), i, ns =>
      if (tok s i).kind = 1 then some (.error (2, (skip s i : Nat)))
      else if (tok s i).kind = 6 ∧ ((tok s i).n = 7 ∨ (tok s i).n = 8) then
        if isR ns a = true then some (.error (3, (skip s i : Nat)))
        else bindD (D s m (.chain3 false) (tok s i).end_.toNat ns) fun b j ns => bindD (some (addD ns j (binN (tok s i).n a b))) fun v k ns => D s m (.loop2 v) k ns
      else some (.ok (a, skip s i, ns))
  | m + 1, Sum.inr (Sum.inr (Sum.inr (Sum.inl r))), i, ns => bindD (D s m (.unary r) i ns) fun a i ns => D s m (.loop3 a) i ns
  | m + 1, Sum.inr (Sum.inr (Sum.inr (Sum.inr (Sum.inl a)))), i, ns =>
      if (tok s i).kind = 1 then some (.error (2, (skip s i : Nat)))
      else if (tok s i).kind = 6 ∧ ((tok s i).n = 9 ∨ (tok s i).n = 10) then
        if isR ns a = true then some (.error (3, (skip s i : Nat)))
        else bindD (D s m (.unary false) (tok s i).end_.toNat ns) fun b j ns => bindD (some (addD ns j (binN (tok s i).n a b))) fun v k ns => D s m (.loop3 v) k ns
      else some (.ok (a, skip s i, ns))
  | m + 1, Sum.inr (Sum.inr (Sum.inr (Sum.inr (Sum.inr (Sum.inl r))))), i, ns =>
      if (tok s i).kind = 1 then some (.error (2, (skip s i : Nat)))
      else if (tok s i).kind = 6 ∧ (tok s i).n = 8 then bindD (D s m (.unary false) (tok s i).end_.toNat ns) fun v j ns => some (addD ns j (negN v))
      else D s m (.atom r) (skip s i) ns
  | m + 1, Sum.inr (Sum.inr (Sum.inr (Sum.inr (Sum.inr (Sum.inr (Sum.inl r)))))), i, ns =>
      let t := tok s i
      if t.kind = 1 then some (.error (2, (skip s i : Nat)))
      else if t.kind = 2 then some (addD ns t.end_.toNat (leafN t.op t.n))
      else if t.kind = 3 then some (.error (t.n, (skip s i : Nat)))
      else if t.kind = 4 then
        let i1 := t.end_.toNat
        let c := tok s i1
        if c.kind = 1 then some (.error (2, (skip s i1 : Nat)))
        else if c.kind = 58 then
          let i2 := c.end_.toNat
          let u := tok s i2
          if u.kind = 1 then some (.error (2, (skip s i2 : Nat)))
          else if u.kind = 4 then if r = true then some (addD ns u.end_.toNat (rangeN t.r u.r)) else some (.error (6, (skip s i : Nat)))
          else some (.error (3, (skip s i2 : Nat)))
        else some (addD ns (skip s i1) (refN t.r))
      else if t.kind = 5 then
        let i1 := t.end_.toNat
        let c := tok s i1
        if c.kind = 1 then some (.error (2, (skip s i1 : Nat)))
        else if c.kind = 40 then
          let i2 := c.end_.toNat
          let d := tok s i2
          if d.kind = 1 then some (.error (2, (skip s i2 : Nat)))
          else if d.kind = 41 then some (.error (6, (skip s i : Nat)))
          else D s m (.args t.n (skip s i : Nat) 0 (-1)) (skip s i2) ns
        else some (.error (5, (skip s i : Nat)))
      else if t.kind = 40 then bindD (D s m (.expr false) t.end_.toNat ns) fun x j ns =>
        if (tok s j).kind = 41 then some (.ok (x, (tok s j).end_.toNat, ns)) else some (.error (3, (skip s j : Nat)))
      else some (.error (3, (skip s i : Nat)))
  | m + 1, Sum.inr (Sum.inr (Sum.inr (Sum.inr (Sum.inr (Sum.inr (Sum.inr (f, p, n, l))))))), i, ns => bindD (D s m (.expr (s209 f)) i ns) fun a j ns => bindD (some (addD ns j (argN a l))) fun l' j ns =>
      if (tok s j).kind = 44 then D s m (.args f p (n + 1) l') (tok s j).end_.toNat ns
      else if (tok s j).kind = 41 then
        if s208 f (n + 1) = true then some (addD ns (tok s j).end_.toNat (callN f l' (n + 1))) else some (.error (6, p))
      else some (.error (3, (skip s j : Nat)))

/-! ### It ends -/
/-- How many tokens from i on (the end counts). -/
def rem (s : List UInt8) (i : Nat) : Nat := (toksFrom s i).length
theorem rem_skip (s : List UInt8) (i : Nat) : rem s (skip s i) = rem s i := by
  unfold rem
  rw [toksFrom_eq s (skip s i), toksFrom_eq s i]
  simp only [skip_skip]
theorem rem_pos (s : List UInt8) (i : Nat) : 0 < rem s i := by
  unfold rem
  rw [toksFrom_eq]
  split <;> simp
theorem tok_end {s : List UInt8} {i : Nat} (hi : i ≤ s.length) (h : (tok s i).kind ≠ 0) : ∃ e : Nat, (tok s i).end_ = e ∧ (tok s i).end_.toNat = e ∧ skip s i < e ∧ e ≤ s.length ∧ rem s e + 1 = rem s i := by
  unfold tok at *
  by_cases hc : skip s i < s.length
  · rw [if_pos hc] at *
    obtain ⟨_, e, he, h1, h2⟩ := rawTok_at hc
    refine ⟨e, he, by rw [he]; simp, h1, h2, ?_⟩
    unfold rem
    conv => rhs; rw [toksFrom_eq, dif_pos hc, he]
    simp
  · rw [if_neg hc] at h
    exact absurd rfl h
def rank : Fn → Nat
  | Sum.inl _ => 5 | Sum.inr (Sum.inl _) => 4 | Sum.inr (Sum.inr (Sum.inl _)) => 4 | Sum.inr (Sum.inr (Sum.inr (Sum.inl _))) => 3 | Sum.inr (Sum.inr (Sum.inr (Sum.inr (Sum.inl _)))) => 3 | Sum.inr (Sum.inr (Sum.inr (Sum.inr (Sum.inr (Sum.inl _))))) => 2 | Sum.inr (Sum.inr (Sum.inr (Sum.inr (Sum.inr (Sum.inr (Sum.inl _)))))) => 1 | Sum.inr (Sum.inr (Sum.inr (Sum.inr (Sum.inr (Sum.inr (Sum.inr (_))))))) => 6
def isLoop : Fn → Bool
  | Sum.inr (Sum.inr (Sum.inl _)) => true | Sum.inr (Sum.inr (Sum.inr (Sum.inr (Sum.inl _)))) => true | _ => false
/-- The answer is there; it stands further on. -/
def Ends (s : List UInt8) (fn : Fn) (i : Nat) (o : Option DRes) : Prop :=
  ∃ x, o = some x ∧ ∀ v j ns, x = .ok (v, j, ns) → j ≤ s.length ∧ (rem s j < rem s i ∨ (isLoop fn = true ∧ rem s j ≤ rem s i))
theorem Ends.err {s : List UInt8} {fn : Fn} {i : Nat} {e : Int × Int} : Ends s fn i (some (.error e)) := ⟨_, rfl, fun _ _ _ h => by cases h⟩
theorem Ends.add {s : List UInt8} {fn : Fn} {i j : Nat} {ns : List NodeT} {x : NodeT} (h1 : j ≤ s.length) (h2 : rem s j < rem s i) : Ends s fn i (some (addD ns j x)) := by
  refine ⟨_, rfl, fun v k ms h => ?_⟩
  unfold addD at h
  split at h
  · cases h
  · injection h with h
    injection h with _ h
    injection h with h _
    subst h
    exact ⟨h1, .inl h2⟩
theorem Ends.bind {s : List UInt8} {fn fn' : Fn} {i i' : Nat} {o : Option DRes} {k : Int → Nat → List NodeT → Option DRes} (h : Ends s fn i o)
    (hk : ∀ v j ns, j ≤ s.length → (rem s j < rem s i ∨ (isLoop fn = true ∧ rem s j ≤ rem s i)) → Ends s fn' i' (k v j ns)) : Ends s fn' i' (bindD o k) := by
  obtain ⟨x, rfl, h2⟩ := h
  cases x with
  | error e => exact Ends.err
  | ok a =>
    obtain ⟨v, j, ns⟩ := a
    obtain ⟨h3, h4⟩ := h2 v j ns rfl
    exact hk v j ns h3 h4
theorem Ends.mono {s : List UInt8} {fn fn' : Fn} {i i' : Nat} {o : Option DRes} (h : Ends s fn i o) (hr : rem s i < rem s i' ∨ (rem s i ≤ rem s i' ∧ (isLoop fn = true → isLoop fn' = true))) : Ends s fn' i' o := by
  obtain ⟨x, e, h2⟩ := h
  refine ⟨x, e, fun v j ns hx => ?_⟩
  obtain ⟨h3, h4⟩ := h2 v j ns hx
  refine ⟨h3, ?_⟩
  rcases hr with hr | ⟨hr, hr2⟩
  · rcases h4 with h4 | h4
    · exact .inl (by omega)
    · exact .inl (by omega)
  · rcases h4 with h4 | ⟨h4, h5⟩
    · exact .inl (by omega)
    · exact .inr ⟨hr2 h4, by omega⟩
theorem addB {s : List UInt8} {fn : Fn} {i j : Nat} {ns : List NodeT} {x : NodeT} {k : Int → Nat → List NodeT → Option DRes} (hk : ∀ v ns, Ends s fn i (k v j ns)) : Ends s fn i (bindD (some (addD ns j x)) k) := by
  unfold addD
  split
  · exact Ends.err
  · exact hk _ _
theorem D_ends (s : List UInt8) : ∀ (m : Nat) (fn : Fn) (i : Nat) (ns : List NodeT), i ≤ s.length → 10 * rem s i + rank fn ≤ m → Ends s fn i (D s m fn i ns) := by
  intro m
  induction m with
  | zero =>
    intro fn i ns hi hm
    have := rem_pos s i
    omega
  | succ m ih =>
    intro fn i ns hi hm
    have hsk := skip_len s i hi
    have hrs := rem_skip s i
    cases fn using Fn.cs with
    | expr r =>
      simp only [rank] at hm
      refine Ends.bind (ih (.chain2 r) i ns hi (by simp only [rank]; omega)) ?_
      intro a j ns hj hr
      have hr : rem s j < rem s i := by rcases hr with h | ⟨h, _⟩; exact h; cases h
      split
      · rename_i hc
        split
        · exact Ends.err
        · obtain ⟨e, he, het, h1, h2, h3⟩ := tok_end hj (by omega)
          rw [het]
          refine Ends.bind (ih (.chain2 false) e ns h2 (by simp only [rank]; omega)) ?_
          intro b k ns hk hr2
          have hr2 : rem s k < rem s e := by rcases hr2 with h | ⟨h, _⟩; exact h; cases h
          exact Ends.add hk (by omega)
      · exact ⟨_, rfl, fun v k ms h => by injection h with h; injection h with _ h; injection h with h _; subst h; exact ⟨hj, .inl hr⟩⟩
    | chain2 r =>
      simp only [rank] at hm
      refine Ends.bind (ih (.chain3 r) i ns hi (by simp only [rank]; omega)) ?_
      intro a j ns hj hr
      have hr : rem s j < rem s i := by rcases hr with h | ⟨h, _⟩; exact h; cases h
      exact (ih (.loop2 a) j ns hj (by simp only [rank]; omega)).mono (.inl hr)
    | loop2 a =>
      simp only [rank] at hm
      show Ends s _ i (if _ then _ else _)
      split
      · exact Ends.err
      · split
        · rename_i hc
          split
          · exact Ends.err
          · obtain ⟨e, he, het, h1, h2, h3⟩ := tok_end hi (by omega)
            rw [het]
            refine Ends.bind (ih (.chain3 false) e ns h2 (by simp only [rank]; omega)) ?_
            intro b k ns hk hr2
            have hr2 : rem s k < rem s e := by rcases hr2 with h | ⟨h, _⟩; exact h; cases h
            refine addB (fun v ns => ?_)
            exact (ih (.loop2 v) k ns hk (by simp only [rank]; omega)).mono (.inl (by omega))
        · exact ⟨_, rfl, fun v k ms h => by injection h with h; injection h with _ h; injection h with h _; subst h; exact ⟨hsk, .inr ⟨rfl, by omega⟩⟩⟩
    | chain3 r =>
      simp only [rank] at hm
      refine Ends.bind (ih (.unary r) i ns hi (by simp only [rank]; omega)) ?_
      intro a j ns hj hr
      have hr : rem s j < rem s i := by rcases hr with h | ⟨h, _⟩; exact h; cases h
      exact (ih (.loop3 a) j ns hj (by simp only [rank]; omega)).mono (.inl hr)
    | loop3 a =>
      simp only [rank] at hm
      show Ends s _ i (if _ then _ else _)
      split
      · exact Ends.err
      · split
        · rename_i hc
          split
          · exact Ends.err
          · obtain ⟨e, he, het, h1, h2, h3⟩ := tok_end hi (by omega)
            rw [het]
            refine Ends.bind (ih (.unary false) e ns h2 (by simp only [rank]; omega)) ?_
            intro b k ns hk hr2
            have hr2 : rem s k < rem s e := by rcases hr2 with h | ⟨h, _⟩; exact h; cases h
            refine addB (fun v ns => ?_)
            exact (ih (.loop3 v) k ns hk (by simp only [rank]; omega)).mono (.inl (by omega))
        · exact ⟨_, rfl, fun v k ms h => by injection h with h; injection h with _ h; injection h with h _; subst h; exact ⟨hsk, .inr ⟨rfl, by omega⟩⟩⟩
    | unary r =>
      simp only [rank] at hm
      show Ends s _ i (if _ then _ else _)
      split
      · exact Ends.err
      · split
        · rename_i hc
          obtain ⟨e, he, het, h1, h2, h3⟩ := tok_end hi (by omega)
          rw [het]
          refine Ends.bind (ih (.unary false) e ns h2 (by simp only [rank]; omega)) ?_
          intro b k ns hk hr2
          have hr2 : rem s k < rem s e := by rcases hr2 with h | ⟨h, _⟩; exact h; cases h
          exact Ends.add hk (by omega)
        · exact (ih (.atom r) (skip s i) ns hsk (by simp only [rank]; omega)).mono (.inr ⟨by omega, fun h => by cases h⟩)
    | atom r =>
      simp only [rank] at hm
      show Ends s _ i (if _ then _ else _)
      split
      · exact Ends.err
      split
      · rename_i hc
        obtain ⟨e, he, het, h1, h2, h3⟩ := tok_end hi (by omega)
        rw [het]
        exact Ends.add h2 (by omega)
      split
      · exact Ends.err
      split
      · rename_i hc
        obtain ⟨e, he, het, h1, h2, h3⟩ := tok_end hi (by omega)
        simp only [het]
        split
        · exact Ends.err
        split
        · rename_i hc2
          obtain ⟨e2, he2, het2, h12, h22, h32⟩ := tok_end h2 (by omega)
          simp only [het2]
          split
          · exact Ends.err
          split
          · rename_i hc3
            obtain ⟨e3, he3, het3, h13, h23, h33⟩ := tok_end h22 (by omega)
            simp only [het3]
            split
            · exact Ends.add h23 (by omega)
            · exact Ends.err
          · exact Ends.err
        · exact Ends.add (skip_len s e h2) (by rw [rem_skip]; omega)
      split
      · rename_i hc
        obtain ⟨e, he, het, h1, h2, h3⟩ := tok_end hi (by omega)
        simp only [het]
        split
        · exact Ends.err
        split
        · rename_i hc2
          obtain ⟨e2, he2, het2, h12, h22, h32⟩ := tok_end h2 (by omega)
          simp only [het2]
          split
          · exact Ends.err
          split
          · exact Ends.err
          · exact (ih (.args _ _ _ _) (skip s e2) ns (skip_len s e2 h22) (by simp only [rank, rem_skip]; omega)).mono (.inl (by rw [rem_skip]; omega))
        · exact Ends.err
      split
      · rename_i hc
        obtain ⟨e, he, het, h1, h2, h3⟩ := tok_end hi (by omega)
        rw [het]
        refine Ends.bind (ih (.expr false) e ns h2 (by simp only [rank]; omega)) ?_
        intro b k ns hk hr2
        have hr2 : rem s k < rem s e := by rcases hr2 with h | ⟨h, _⟩; exact h; cases h
        split
        · rename_i hc2
          obtain ⟨e2, he2, het2, h12, h22, h32⟩ := tok_end hk (by omega)
          exact ⟨_, rfl, fun v k ms h => by injection h with h; injection h with _ h; injection h with h _; subst h; rw [het2]; exact ⟨h22, .inl (by omega)⟩⟩
        · exact Ends.err
      · exact Ends.err
    | args f p n l =>
      simp only [rank] at hm
      refine Ends.bind (ih (.expr (s209 f)) i ns hi (by simp only [rank]; omega)) ?_
      intro a j ns hj hr
      have hr : rem s j < rem s i := by rcases hr with h | ⟨h, _⟩; exact h; cases h
      refine addB (fun v ns => ?_)
      split
      · rename_i hc
        obtain ⟨e, he, het, h1, h2, h3⟩ := tok_end hj (by omega)
        rw [het]
        exact (ih (.args f p (n + 1) v) e ns h2 (by simp only [rank]; omega)).mono (.inl (by omega))
      split
      · rename_i hc
        obtain ⟨e, he, het, h1, h2, h3⟩ := tok_end hj (by omega)
        split
        · rw [het]; exact Ends.add h2 (by omega)
        · exact Ends.err
      · exact Ends.err
end Go.Proofs.Qxb6500272aGreat
