/-
  Plain laws, values: compiling a tree and running its program.
-/
import Derived.Test.Qxb6500272aGreatX3
namespace Go.Proofs.Qxb6500272aGreat
open Go
set_option linter.unusedVariables false
set_option linter.unusedSimpArgs false
def exec (n : Nat) (env : List ValT) : List InstrT → VS → Option VS
  | [], S => some S
  | x :: P, S => (s201 n S x env 24).bind fun S => exec n env P S
theorem exec_app (n : Nat) (env : List ValT) : ∀ (P Q : List InstrT) (S : VS), exec n env (P ++ Q) S = (exec n env P S).bind fun S => exec n env Q S := by
  intro P
  induction P with
  | nil => intro Q S; rfl
  | cons x P ih =>
    intro Q S
    show (s201 n S x env 24).bind (fun S => exec n env (P ++ Q) S) = ((s201 n S x env 24).bind fun S => exec n env P S).bind _
    cases s201 n S x env 24 with
    | none => rfl
    | some S1 => exact ih Q S1
def orI : List InstrT → BitVec 32
  | [] => 0
  | x :: P => x.set ||| orI P
theorem orI_app (P Q : List InstrT) : orI (P ++ Q) = orI P ||| orI Q := by
  induction P with
  | nil => show orI Q = 0 ||| orI Q; simp
  | cons x P ih => show x.set ||| orI (P ++ Q) = (x.set ||| orI P) ||| orI Q; rw [ih, BitVec.or_assoc]
/-- What a node reads. -/
def rdN (x : NodeT) : BitVec 32 := if x.kind = 3 then (if s116 x.r1 = true then s92 (x.r1.row * 4 + x.r1.col) else 0) else if x.kind = 4 then (blkS x.r1 x.r2).1 else 0
def rdL : List NodeT → BitVec 32
  | [] => 0
  | x :: l => rdN x ||| rdL l
theorem rdL_app (P Q : List NodeT) : rdL (P ++ Q) = rdL P ||| rdL Q := by
  induction P with
  | nil => show rdL Q = 0 ||| rdL Q; simp
  | cons x P ih => show rdN x ||| rdL (P ++ Q) = (rdN x ||| rdL P) ||| rdL Q; rw [ih, BitVec.or_assoc]
def seg (ns : List NodeT) (lo v : Nat) : List NodeT := (ns.drop lo).take (v + 1 - lo)
theorem seg_one {ns : List NodeT} {v : Nat} {x : NodeT} (h : ns[v]? = some x) : seg ns v v = [x] := by
  unfold seg
  obtain ⟨hl, he⟩ := List.getElem?_eq_some_iff.1 h
  rw [List.drop_eq_getElem_cons hl, he, show v + 1 - v = 1 by omega]
  simp
theorem seg_app {ns : List NodeT} {lo a v : Nat} (h1 : lo ≤ a + 1) (h2 : a ≤ v) (h3 : v < ns.length) : seg ns lo v = seg ns lo a ++ seg ns (a + 1) v := by
  unfold seg
  rw [show v + 1 - lo = (a + 1 - lo) + (v + 1 - (a + 1)) by omega, List.take_add, List.drop_drop, show lo + (a + 1 - lo) = a + 1 by omega]
theorem seg_snoc {ns : List NodeT} {lo v : Nat} {x : NodeT} (h1 : lo ≤ v + 1) (h : ns[v + 1]? = some x) : seg ns lo (v + 1) = seg ns lo v ++ [x] := by
  rw [seg_app (a := v) h1 (by omega) (get_lt' h), seg_one h]
where get_lt' {ns : List NodeT} {v : Nat} {x : NodeT} (h : ns[v]? = some x) : v < ns.length := (List.getElem?_eq_some_iff.1 h).1
/-- A program laid ahead of the code. -/
def CmpTo (S : VS) (P : List InstrT) (lo v : Nat) (S' : VS) : Prop :=
  ∃ C O, S' = { S with code := C, start := S.start - P.length, cells := S.cells ||| orI P, owner := O } ∧ C.length = 48 ∧ O.length = 24 ∧
    C.drop (S.start - P.length).toNat = P ++ S.code.drop S.start.toNat ∧ (∀ i, (i < lo ∨ v < i) → O[i]? = S.owner[i]?)
theorem CmpTo.trans {S S1 S2 : VS} {P Q : List InstrT} {lo v lo1 v1 lo2 v2 : Nat} (h1 : CmpTo S P lo1 v1 S1) (h2 : CmpTo S1 Q lo2 v2 S2) (a1 : lo ≤ lo1 ∨ v1 < lo1) (a2 : v1 ≤ v ∨ v1 < lo1) (b1 : lo ≤ lo2 ∨ v2 < lo2) (b2 : v2 ≤ v ∨ v2 < lo2) : CmpTo S (Q ++ P) lo v S2 := by
  obtain ⟨C, O, rfl, c2, c3, c4, c5⟩ := h1
  obtain ⟨C', O', rfl, d2, d3, d4, d5⟩ := h2
  refine ⟨C', O', ?_, d2, d3, ?_, ?_⟩
  · simp only [List.length_append]
    rw [orI_app]
    have e1 : S.start - (P.length : Int) - (Q.length : Int) = S.start - ((Q.length + P.length : Nat) : Int) := by omega
    have e2 : S.cells ||| orI P ||| orI Q = S.cells ||| (orI Q ||| orI P) := by rw [BitVec.or_assoc, BitVec.or_comm (orI P)]
    rw [e1, e2]
  · have e1 : S.start - ((Q ++ P).length : Int) = S.start - (P.length : Int) - (Q.length : Int) := by rw [List.length_append]; omega
    rw [e1]
    refine d4.trans ?_
    show Q ++ C.drop (S.start - (P.length : Int)).toNat = _
    rw [c4, List.append_assoc]
  · intro i hi
    have e : O'[i]? = O[i]? := d5 i (by omega)
    rw [e]
    exact c5 i (by omega)
theorem CmpTo.nil {S : VS} {lo v : Nat} (hc : S.code.length = 48) (ho : S.owner.length = 24) : CmpTo S [] lo v S := by
  refine ⟨S.code, S.owner, ?_, hc, ho, ?_, fun i _ => rfl⟩
  · have : S.cells ||| orI [] = S.cells := by show S.cells ||| 0 = _; simp
    rw [this]
    have : S.start - (([] : List InstrT).length : Int) = S.start := by simp
    rw [this]
  · simp
theorem s196_ok {S : VS} {e : Nat} (z1 z2 : Int) (z3 : ValT) (z4 : BitVec 32) (he : S.start = (e : Int) + 1) (h48 : e < 48) (hc : S.code.length = 48) (ho : S.owner.length = 24) : ∃ S', s196 S z1 z2 z3 z4 = some S' ∧ CmpTo S [⟨z1, z2, z3, z4⟩] 1 0 S' := by
  unfold s196
  rw [ckF (by rw [he]; constructor <;> omega), show S.start - 1 = (e : Int) by omega]
  rw [bindT (getT (x := S.code[e]'(by omega)) (by omega) (by omega) (by rw [Int.toNat_natCast]; exact List.getElem?_eq_getElem _)), Int.toNat_natCast]
  refine ⟨_, rfl, S.code.set e ⟨z1, z2, z3, z4⟩, S.owner, ?_, by rw [List.length_set]; exact hc, ho, ?_, fun i _ => rfl⟩
  · have : orI [(⟨z1, z2, z3, z4⟩ : InstrT)] = z4 := by show z4 ||| 0 = z4; simp
    rw [this]
    rw [show S.start - (([(⟨z1, z2, z3, z4⟩ : InstrT)].length : Nat) : Int) = (e : Int) by simp; omega]
  · rw [show (S.start - (([(⟨z1, z2, z3, z4⟩ : InstrT)].length : Nat) : Int)).toNat = e by simp; omega, show S.start.toNat = e + 1 by omega]
    rw [List.drop_set, if_neg (by omega), Nat.sub_self, List.drop_eq_getElem_cons (by omega : e < S.code.length)]
    rfl
/-! ### Running -/
def RunTo (S : VS) (t d : Nat) (xs : List ValT) (fs : List TallyT) (S' : VS) : Prop :=
  ∃ st fo, S' = { S with stack := st, top := ((t + xs.length : Nat) : Int), folds := fo, deep := ((d + fs.length : Nat) : Int) } ∧ st.length = 24 ∧ fo.length = 24 ∧ (∀ i, i < t → st[i]? = S.stack[i]?) ∧ (∀ i x, xs[i]? = some x → st[t + i]? = some x) ∧ (∀ i, i < d → fo[i]? = S.folds[i]?) ∧ (∀ i T, fs[i]? = some T → fo[d + i]? = some T)
structure Rdy (S : VS) (t d : Nat) : Prop where
  top : S.top = (t : Int)
  deep : S.deep = (d : Int)
  st : S.stack.length = 24
  fo : S.folds.length = 24
def Run (env : List ValT) (P : List InstrT) (lo : Nat) (xs : List ValT) (fs : List TallyT) : Prop :=
  ∀ n, 1000 ≤ n → ∀ (S : VS) (t d : Nat), Rdy S t d → t ≤ lo → d ≤ lo → ∃ S', exec n env P S = some S' ∧ RunTo S t d xs fs S'
theorem RunTo.rdy {S S' : VS} {t d : Nat} {xs : List ValT} {fs : List TallyT} (h : RunTo S t d xs fs S') : Rdy S' (t + xs.length) (d + fs.length) := by
  obtain ⟨st, fo, rfl, h2, h3, _⟩ := h
  exact ⟨rfl, rfl, h2, h3⟩
theorem RunTo.trans {S S1 S2 : VS} {t d : Nat} {xs ys : List ValT} {fs gs : List TallyT} (h1 : RunTo S t d xs fs S1) (h2 : RunTo S1 (t + xs.length) (d + fs.length) ys gs S2) : RunTo S t d (xs ++ ys) (fs ++ gs) S2 := by
  obtain ⟨st, fo, rfl, a1, a2, a3, a4, a5, a6⟩ := h1
  obtain ⟨st', fo', rfl, b1, b2, b3, b4, b5, b6⟩ := h2
  refine ⟨st', fo', ?_, b1, b2, ?_, ?_, ?_, ?_⟩
  · simp only [List.length_append, Nat.add_assoc]
  · intro i hi
    rw [b3 i (by omega)]; exact a3 i hi
  · intro i x hx
    rcases Nat.lt_or_ge i xs.length with h | h
    · rw [List.getElem?_append_left h] at hx
      rw [b3 (t + i) (by omega)]; exact a4 i x hx
    · rw [List.getElem?_append_right h] at hx
      have := b4 _ x hx
      rw [show t + xs.length + (i - xs.length) = t + i by omega] at this; exact this
  · intro i hi
    rw [b5 i (by omega)]; exact a5 i hi
  · intro i T hT
    rcases Nat.lt_or_ge i fs.length with h | h
    · rw [List.getElem?_append_left h] at hT
      rw [b5 (d + i) (by omega)]; exact a6 i T hT
    · rw [List.getElem?_append_right h] at hT
      have := b6 _ T hT
      rw [show d + fs.length + (i - fs.length) = d + i by omega] at this; exact this
theorem getL {α : Type} {l : List α} {i : Nat} (h : i < l.length) : l[i]? = some (l[i]'h) := List.getElem?_eq_getElem h
/-- A push. -/
theorem s219_ok {S : VS} {t d : Nat} (h : Rdy S t d) (ht : t < 24) (x : ValT) : ∃ S', s219 S x = some S' ∧ RunTo S t d [x] [] S' := by
  unfold s219
  rw [h.top, bindT (getT (x := S.stack[t]'(by rw [h.st]; exact ht)) (by omega) (by omega) (by rw [Int.toNat_natCast]; exact getL _)), ckF (by constructor <;> omega), Int.toNat_natCast]
  refine ⟨_, rfl, S.stack.set t x, S.folds, ?_, by rw [List.length_set]; exact h.st, h.fo, ?_, ?_, fun _ _ => rfl, fun i T hT => by simp at hT⟩
  · have := h.deep
    simp only [List.length_singleton, List.length_nil]
    rw [show ((t + 1 : Nat) : Int) = (t : Int) + 1 by omega, show ((d + 0 : Nat) : Int) = S.deep by omega]
  · intro i hi
    rw [List.getElem?_set_ne (by omega)]
  · intro i y hy
    match i, hy with
    | 0, hy =>
      injection hy with hy
      subst hy
      exact List.getElem?_set_self (by rw [h.st]; exact ht)
    | i + 1, hy => simp at hy
/-- A pop. -/
theorem s202_ok {S : VS} {t d : Nat} {x : ValT} (h : Rdy S (t + 1) d) (ht : t < 24) (hx : S.stack[t]? = some x) : s202 S = some ({ S with top := (t : Int) }, x) := by
  unfold s202
  have := h.top
  rw [ckF (by constructor <;> omega), show S.top - 1 = (t : Int) by omega, bindT (getT (x := x) (by omega) (by omega) (by rw [Int.toNat_natCast]; exact hx))]
theorem Rdy.pop {S : VS} {t d : Nat} (h : Rdy S (t + 1) d) : Rdy { S with top := (t : Int) } t d := ⟨rfl, h.deep, h.st, h.fo⟩
/-- A state whose topmost values are popped and one pushed. -/
theorem RunTo.repl {S S1 S2 : VS} {t d : Nat} {xs : List ValT} {y : ValT} (h1 : RunTo S t d xs [] S1) (h2 : RunTo { S1 with top := (t : Int) } t d [y] [] S2) : RunTo S t d [y] [] S2 := by
  obtain ⟨st, fo, rfl, a1, a2, a3, a4, a5, a6⟩ := h1
  obtain ⟨st', fo', rfl, b1, b2, b3, b4, b5, b6⟩ := h2
  refine ⟨st', fo', rfl, b1, b2, ?_, b4, ?_, b6⟩
  · intro i hi; rw [b3 i hi]; exact a3 i hi
  · intro i hi; rw [b5 i hi]; exact a5 i hi
theorem RunTo.at {S S1 : VS} {t d : Nat} {xs : List ValT} {fs : List TallyT} {i : Nat} {x : ValT} (h : RunTo S t d xs fs S1) (hx : xs[i]? = some x) : S1.stack[t + i]? = some x := by
  obtain ⟨st, fo, rfl, a1, a2, a3, a4, a5, a6⟩ := h
  exact a4 i x hx
theorem RunTo.tal {S S1 : VS} {t d : Nat} {xs : List ValT} {fs : List TallyT} {i : Nat} {T : TallyT} (h : RunTo S t d xs fs S1) (hx : fs[i]? = some T) : S1.folds[d + i]? = some T := by
  obtain ⟨st, fo, rfl, a1, a2, a3, a4, a5, a6⟩ := h
  exact a6 i T hx
/-! ### The model's values -/
def ValAt (ns : List NodeT) (env : List ValT) (v : Nat) (x : ValT) : Prop := ∀ n g, 1000 ≤ n → v < g → (rc204 n g).1 ns ns.length (v : Int) env 24 = some x
def FolAt (ns : List NodeT) (env : List ValT) (f : Int) (v : Nat) (F : FoldT) : Prop := ∀ n g, 1000 ≤ n → v < g → (rc204 n g).2 ns ns.length (v : Int) f env 24 = some F
structure ArgC (ns : List NodeT) (env : List ValT) (P : Nat → List ValT → Prop) : Prop where
  one : ∀ {v : Nat} {x : NodeT} {y : ValT}, ns[v + 1]? = some x → x.a = v → ValAt ns env v y → P (v + 1) [y]
  more : ∀ {v a : Nat} {x : NodeT} {y : ValT} {ys : List ValT}, ns[v + 1]? = some x → x.a = v → x.b = a → a < v → ValAt ns env v y → P a ys → P (v + 1) (ys ++ [y])
def ArgV (ns : List NodeT) (env : List ValT) (v : Nat) (xs : List ValT) : Prop := ∀ P, ArgC ns env P → P v xs
theorem ArgV.one {ns : List NodeT} {env : List ValT} {v : Nat} {x : NodeT} {y : ValT} (h1 : ns[v + 1]? = some x) (h2 : x.a = v) (h3 : ValAt ns env v y) : ArgV ns env (v + 1) [y] := fun P c => c.one h1 h2 h3
theorem ArgV.more {ns : List NodeT} {env : List ValT} {v a : Nat} {x : NodeT} {y : ValT} {ys : List ValT} (h1 : ns[v + 1]? = some x) (h2 : x.a = v) (h3 : x.b = a) (h4 : a < v) (h5 : ValAt ns env v y) (h6 : ArgV ns env a ys) :
    ArgV ns env (v + 1) (ys ++ [y]) := fun P c => c.more h1 h2 h3 h4 h5 (h6 P c)
theorem ArgV.cs {ns : List NodeT} {env : List ValT} {motive : (v : Nat) → (xs : List ValT) → ArgV ns env v xs → Prop}
    (one : ∀ {v : Nat} {x : NodeT} {y : ValT} (h1 : ns[v + 1]? = some x) (h2 : x.a = v) (h3 : ValAt ns env v y), motive (v + 1) [y] (.one h1 h2 h3))
    (more : ∀ {v a : Nat} {x : NodeT} {y : ValT} {ys : List ValT} (h1 : ns[v + 1]? = some x) (h2 : x.a = v) (h3 : x.b = a) (h4 : a < v) (h5 : ValAt ns env v y) (h6 : ArgV ns env a ys), motive (v + 1) (ys ++ [y]) (.more h1 h2 h3 h4 h5 h6))
    {v : Nat} {xs : List ValT} (h : ArgV ns env v xs) : motive v xs h := by
  obtain ⟨h', g⟩ := h (fun v xs => ∃ h : ArgV ns env v xs, motive v xs h) ⟨fun h1 h2 h3 => ⟨.one h1 h2 h3, one h1 h2 h3⟩, fun h1 h2 h3 h4 h5 ⟨h6, _⟩ => ⟨.more h1 h2 h3 h4 h5 h6, more h1 h2 h3 h4 h5 h6⟩⟩
  exact g
/-- An instruction as the compiler lays it. -/
def WfI (x : InstrT) : Prop := x.do_ = 2 → ∃ c : Nat, x.a = (c : Int) ∧ c < 24 ∧ x.set.getLsbD c = true
structure CV (ns : List NodeT) (lo v : Nat) (P : List InstrT) : Prop where
  len : P.length ≤ 2 * (v + 1 - lo)
  comp : ∀ n, 1000 ≤ n → ∀ (g : Nat) (S : VS), S.code.length = 48 → S.owner.length = 24 → 2 * ((v : Int) + 1) ≤ S.start → S.start ≤ 48 →
    ∃ S', CmpTo S P lo v S' ∧ l153_3 n ns ns.length (g + (v + 1 - lo)) (v : Int) S = l153_3 n ns ns.length g ((lo : Int) - 1) S'
  wf : ∀ x ∈ P, WfI x
  reads : orI P = rdL (seg ns lo v)
  run : ∀ env : List ValT, env.length = 24 → (∀ x ∈ env, Okv x) → ∃ x, Okv x ∧ ValAt ns env v x ∧ Run env P lo [x] []
structure CA (ns : List NodeT) (lo v : Nat) (P : List InstrT) (m f : Int) : Prop where
  len : P.length ≤ 2 * (v + 1 - lo)
  cnt : m.toNat + lo ≤ v + 1
  comp : ∀ n, 1000 ≤ n → ∀ (g : Nat) (S : VS), S.code.length = 48 → S.owner.length = 24 → 2 * ((v : Int) + 1) ≤ S.start → S.start ≤ 48 → S.owner[v]? = some f →
    ∃ S', CmpTo S P lo v S' ∧ l153_3 n ns ns.length (g + (v + 1 - lo)) (v : Int) S = l153_3 n ns ns.length g ((lo : Int) - 1) S'
  wf : ∀ x ∈ P, WfI x
  reads : orI P = rdL (seg ns lo v)
  runT : s218 f = true → ∀ env : List ValT, env.length = 24 → (∀ x ∈ env, Okv x) → ∃ T F, FoldR f (24 * m.toNat) T F ∧ FolAt ns env f v F ∧ Run env P lo [] [T]
  runV : s218 f = false → ∀ env : List ValT, env.length = 24 → (∀ x ∈ env, Okv x) → ∃ xs, (xs.length : Int) = m ∧ (∀ x ∈ xs, Okv x) ∧ ArgV ns env v xs ∧ Run env P lo xs []
/-- The compiler's step at a node. -/
theorem l153_at {n : Nat} {ns : List NodeT} {v g : Nat} {x : NodeT} (S : VS) (hx : ns[v]? = some x) : l153_3 n ns ns.length (g + 1) (v : Int) S = (if x.kind = (1 : Int) then (s196 S (1 : Int) (0 : Int) (⟨(1 : Int), x.n, ([] : List UInt8)⟩ : ValT) (0 : BitVec 32)).bind fun r79 => (k153_2 (v : Int) (l153_3 n ns ns.length g) r79)
    else (if x.kind = (2 : Int) then (s196 S (1 : Int) (0 : Int) (⟨(3 : Int), x.n, ([] : List UInt8)⟩ : ValT) (0 : BitVec 32)).bind fun r84 => (k153_2 (v : Int) (l153_3 n ns ns.length g) r84)
    else (if x.kind = (5 : Int) then (s196 S (1 : Int) (0 : Int) (⟨(4 : Int), (2 : Int), ([] : List UInt8)⟩ : ValT) (0 : BitVec 32)).bind fun r89 => (k153_2 (v : Int) (l153_3 n ns ns.length g) r89)
    else (if x.kind = (3 : Int) then (s197 S x.r1).bind fun r94 => (k153_2 (v : Int) (l153_3 n ns ns.length g) r94)
    else (if x.kind = (6 : Int) then (s196 S (3 : Int) (0 : Int) (⟨(0 : Int), (0 : Int), ([] : List UInt8)⟩ : ValT) (0 : BitVec 32)).bind fun r99 => (k153_2 (v : Int) (l153_3 n ns ns.length g) r99)
    else (if x.kind = (7 : Int) then (s196 S (4 : Int) x.op (⟨(0 : Int), (0 : Int), ([] : List UInt8)⟩ : ValT) (0 : BitVec 32)).bind fun r104 => (k153_2 (v : Int) (l153_3 n ns ns.length g) r104)
    else (if x.kind = (8 : Int) then (getN S.owner 24 x.a).bind fun x109 => (s198 ({ S with owner := (List.set S.owner (Int.toNat x.a) x.op) }) x.op).bind fun r112 => (k153_2 (v : Int) (l153_3 n ns ns.length g) r112)
    else (if x.kind = (9 : Int) then (s199 n S ns ns.length (v : Int)).bind fun r117 => (k153_2 (v : Int) (l153_3 n ns ns.length g) r117)
    else (k153_2 (v : Int) (l153_3 n ns ns.length g) S))))))))) := by
  have hl : v < ns.length := (List.getElem?_eq_some_iff.1 hx).1
  show l153_3_st n ns ns.length (l153_3 n ns ns.length g) (v : Int) S = _
  unfold l153_3_st
  rw [if_pos (by omega), bindT (getT (x := x) (by omega) (by omega) (by rw [Int.toNat_natCast]; exact hx))]
theorem k153_ok {v : Nat} (hv : v < 1000) (rec : Int → VS → Option VS) (S : VS) : k153_2 (v : Int) rec S = rec ((v : Int) - 1) S := by
  unfold k153_2
  rw [ckF (by constructor <;> omega)]
/-- The model's worth, one step. -/
theorem rc204_at {n : Nat} {ns : List NodeT} {env : List ValT} {v : Nat} {x : NodeT} (g : Nat) (hx : ns[v]? = some x) {y : ValT}
    (h : s204_b n (rc204 n g).1 (rc204 n g).2 ns ns.length (v : Int) env 24 = some y) : (rc204 n (g + 1)).1 ns ns.length (v : Int) env 24 = some y := h
end Go.Proofs.Qxb6500272aGreat
