/-
  Plain laws, the parser: the real machine with two stacks, cleanly; what the program's steps come to.
-/
import Derived.Test.Qxb6500272aGreatL2
namespace Go.Proofs.Qxb6500272aGreat
open Go
set_option linter.unusedVariables false
set_option linter.unusedSimpArgs false

/-- The machine: the place of the token at hand, the place read so far, the nodes, the operands and the marks (the top first). -/
structure Mc where
  k : Nat
  pos : Int
  ar : List NodeT
  V : List Int
  O : List MarkT
  hv : Bool
  done : Bool
  err : Int
  bad : Int
def failM (M : Mc) (e p : Int) : Mc := if M.err = 0 then { M with err := e, bad := p } else M
def lookM (T : Nat → TokT) (M : Mc) : Mc := if (T M.k).kind = 1 then failM { M with pos := (T M.k).at_ } 2 (T M.k).at_ else { M with pos := (T M.k).at_ }
def takeM (T : Nat → TokT) (M : Mc) : Mc := { M with k := M.k + 1, pos := (T M.k).end_ }
def addM (M : Mc) (x : NodeT) : Mc × Int :=
  if M.err = 0 then if 24 ≤ M.ar.length then (failM M 7 M.pos, -1) else ({ M with ar := M.ar ++ [x] }, (M.ar.length : Int)) else (M, -1)
def strO : List MarkT → Int
  | [] => 0
  | m :: _ => if m.kind = 2 then s169 m.op else 0
def joinM (M : Mc) : Mc :=
  match M.O, M.V with
  | m :: O, b :: a :: V => let r := addM { M with O := O, V := a :: V } (binN m.op a b); { r.1 with V := r.2 :: V }
  | _, _ => M
def finM (M : Mc) : Mc := { (if strO M.O = 3 then joinM M else M) with hv := true }
def settleN : Nat → Mc → Mc
  | 0, M => M
  | n + 1, M =>
    match M.O, M.V with
    | m :: O, a :: V => if m.kind = 1 then let r := addM { M with O := O } (negN a); settleN n { r.1 with V := r.2 :: V } else finM M
    | _, _ => finM M
def settleM (M : Mc) : Mc := settleN (M.O.length + 1) M
def wholeM (M : Mc) (x : NodeT) : Mc := let r := addM M x; settleM { r.1 with V := r.2 :: M.V }
def pushM (M : Mc) (m : MarkT) : Mc := { M with O := m :: M.O }
def endM (T : Nat → TokT) (t : TokT) (M : Mc) (m : MarkT) (O : List MarkT) : Mc :=
  if t.kind = 41 then
    if m.kind = 3 then settleM { takeM T M with O := O }
    else if s208 m.op m.n = true then wholeM { takeM T M with O := O } (callN m.op m.link m.n) else failM { takeM T M with O := O } 6 m.at_
  else failM M 3 t.at_
def closeM (T : Nat → TokT) (t : TokT) (M : Mc) : Mc :=
  match M.O with
  | [] => { (if t.kind = 0 then M else failM M 3 t.at_) with done := true }
  | m :: O =>
    if m.kind = 4 then
      match M.V with
      | [] => M
      | a :: V =>
        let r := addM { M with V := V } (argN a m.link)
        let m' : MarkT := { m with n := m.n + 1, link := r.2 }
        if t.kind = 44 then { takeM T { r.1 with O := m' :: O } with hv := false } else endM T t { r.1 with O := m' :: O } m' O
    else endM T t M m O
def opM (T : Nat → TokT) (t : TokT) (M : Mc) : Mc :=
  match M.V with
  | [] => M
  | v :: _ => if isR M.ar v = true then failM M 3 t.at_ else { pushM (takeM T M) ⟨2, t.n, 0, 0, 0⟩ with hv := false }
def after3 (T : Nat → TokT) (t : TokT) (s : Int) (M : Mc) : Mc := if s = 0 then closeM T t M else opM T t M
def after2 (T : Nat → TokT) (t : TokT) (s : Int) (M : Mc) : Mc := if s < 2 ∧ strO M.O = 1 then after3 T t 0 (joinM M) else after3 T t s M
def after1 (T : Nat → TokT) (t : TokT) (s : Int) (M : Mc) : Mc := if s < 3 ∧ strO M.O = 2 then after2 T t s (joinM M) else after2 T t s M
def strT (t : TokT) : Int := if t.kind = 6 then s169 t.n else 0
def afterM (T : Nat → TokT) (M : Mc) : Mc := after1 T (T M.k) (strT (T M.k)) (lookM T M)
def rangesO : List MarkT → Bool
  | [] => false
  | m :: _ => if m.kind = 4 then s209 m.op else false
def refM (T : Nat → TokT) (t : TokT) (M : Mc) : Mc :=
  let M1 := lookM T (takeM T M)
  let c := T (M.k + 1)
  if c.kind = 58 then
    let M2 := lookM T (takeM T M1)
    let u := T (M.k + 2)
    if u.kind = 4 then
      if rangesO M.O = true then wholeM (takeM T M2) (rangeN t.r u.r) else failM (takeM T M2) 6 t.at_
    else failM M2 3 u.at_
  else wholeM M1 (refN t.r)
def callM (T : Nat → TokT) (t : TokT) (M : Mc) : Mc :=
  let M1 := lookM T (takeM T M)
  let c := T (M.k + 1)
  if c.kind = 40 then
    let M2 := lookM T (takeM T M1)
    let d := T (M.k + 2)
    if d.kind = 41 then failM M2 6 t.at_ else pushM M2 ⟨4, t.n, t.at_, 0, -1⟩
  else failM M1 5 t.at_
def atomM (T : Nat → TokT) (M : Mc) : Mc :=
  let t := T M.k
  let M1 := lookM T M
  if t.kind = 2 then wholeM (takeM T M1) (leafN t.op t.n)
  else if t.kind = 4 then refM T t M1
  else if t.kind = 5 then callM T t M1
  else if t.kind = 40 then pushM (takeM T M1) ⟨3, 0, 0, 0, 0⟩
  else if t.kind = 3 then failM M1 t.n t.at_
  else if t.kind = 6 then if t.n = 8 then pushM (takeM T M1) ⟨1, 0, 0, 0, 0⟩ else failM M1 3 t.at_
  else failM M1 3 t.at_
def stepM (T : Nat → TokT) (M : Mc) : Mc := if M.hv = true then afterM T M else atomM T M
def runM (T : Nat → TokT) : Nat → Mc → Mc
  | 0, M => M
  | g + 1, M => if M.err = 0 ∧ M.done = false then runM T g (stepM T M) else M

/-! ### The tables and the machine -/
structure FR (S0 S : FoS) (M : Mc) : Prop where
  toks : S.toks = S0.toks
  nt : S.nt = S0.nt
  k : S.k = M.k
  pos : S.pos = M.pos
  arl : S.arena.length = 24
  ar : S.arena.take M.ar.length = M.ar
  nn : S.nn = M.ar.length
  vl : S.opnd.length = 41
  v : S.opnd.take M.V.length = M.V.reverse
  nv : S.nv = M.V.length
  ol : S.ops.length = 41
  o : S.ops.take M.O.length = M.O.reverse
  no : S.no = M.O.length
  hv : S.have_ = M.hv
  done : S.done = M.done
  err : S.err = M.err
  bad : S.bad = M.bad
  notes : S.notes = S0.notes
  out : S.out = S0.out
  w : S.w = S0.w
section
variable {α : Type}
theorem stk_top {a L : List α} {x : α} (h : a.take (x :: L).length = (x :: L).reverse) : a[L.length]? = some x := by
  have := congrArg (fun l => l[L.length]?) h
  simp only [List.length_cons, List.reverse_cons] at this
  rw [List.getElem?_take, if_pos (by omega), List.getElem?_append_right (by simp)] at this
  simpa using this
theorem stk_pop {a L : List α} {x : α} (h : a.take (x :: L).length = (x :: L).reverse) : a.take L.length = L.reverse := by
  have h' : a.take (L.length + 1) = L.reverse ++ [x] := by simpa using h
  have h2 : (a.take (L.length + 1)).take L.length = L.reverse := by rw [h', List.take_append_of_le_length (by simp), List.take_of_length_le (by simp)]
  rwa [List.take_take, Nat.min_eq_left (by omega)] at h2
theorem stk_push {a L : List α} {x : α} (h : a.take L.length = L.reverse) (hl : L.length < a.length) : (a.set L.length x).take (x :: L).length = (x :: L).reverse := by
  simp only [List.length_cons, List.reverse_cons]
  rw [List.take_add_one, List.getElem?_set_self hl]
  simp only [Option.toList_some]
  rw [← h]
  congr 1
  rw [List.take_set, List.set_eq_of_length_le (by simp; omega)]
theorem stk_set {a L : List α} {x y : α} (h : a.take (x :: L).length = (x :: L).reverse) (hl : L.length < a.length) : (a.set L.length y).take (y :: L).length = (y :: L).reverse := stk_push (stk_pop h) hl
theorem stk_below {a L : List α} {x y : α} (h : a.take (x :: y :: L).length = (x :: y :: L).reverse) : a[L.length]? = some y := stk_top (stk_pop h)
theorem pre_push {a l : List α} {x : α} (h : a.take l.length = l) (hl : l.length < a.length) : (a.set l.length x).take (l ++ [x]).length = l ++ [x] := by
  have := stk_push (a := a) (L := l.reverse) (x := x) (by simpa using h) (by simpa using hl)
  simpa using this
theorem pre_get {a l : List α} (h : a.take l.length = l) {i : Nat} (hi : i < l.length) : a[i]? = l[i]? := by
  have := congrArg (fun t => t[i]?) h
  simp only [List.getElem?_take, if_pos hi] at this
  exact this
end
theorem bindT {α β : Type} {o : Option α} {x : α} {f : α → Option β} (h : o = some x) : o.bind f = f x := by rw [h]; rfl
theorem fr_fail {S0 S : FoS} {M : Mc} (h : FR S0 S M) (e p : Int) : FR S0 (s173 S e p) (failM M e p) := by
  unfold s173 failM
  rw [h.err]
  split
  · exact { h with err := rfl, bad := rfl }
  · exact h
theorem fr_look {S0 S : FoS} {M : Mc} {T : Nat → TokT} (h : FR S0 S M) (hk : M.k < 41) (ht : S0.toks[M.k]? = some (T M.k)) : ∃ S', s168 S = some (S', T M.k) ∧ FR S0 S' (lookM T M) := by
  unfold s168
  rw [bindT (getT (x := T M.k) (by rw [h.k]; omega) (by rw [h.k]; omega) (by rw [h.toks, h.k, Int.toNat_natCast]; exact ht))]
  have h2 : FR S0 { S with pos := (T M.k).at_ } { M with pos := (T M.k).at_ } := { h with pos := rfl }
  unfold lookM
  by_cases hc : (T M.k).kind = 1
  · rw [if_pos hc, if_pos hc]
    exact ⟨_, rfl, fr_fail h2 _ _⟩
  · rw [if_neg hc, if_neg hc]
    exact ⟨_, rfl, h2⟩
theorem fr_take {S0 S : FoS} {M : Mc} {T : Nat → TokT} (h : FR S0 S M) (hk : M.k < 41) (ht : S0.toks[M.k]? = some (T M.k)) : ∃ S', s174 S = some S' ∧ FR S0 S' (takeM T M) := by
  unfold s174
  rw [bindT (getT (x := T M.k) (by rw [h.k]; omega) (by rw [h.k]; omega) (by rw [h.toks, h.k, Int.toNat_natCast]; exact ht))]
  rw [ckF (by rw [h.k]; constructor <;> omega)]
  exact ⟨_, rfl, { h with k := by simp [takeM, h.k], pos := rfl }⟩
theorem addM_cases (M : Mc) (x : NodeT) : (M.err ≠ 0 ∧ addM M x = (M, -1)) ∨ (M.err = 0 ∧ 24 ≤ M.ar.length ∧ addM M x = ({ M with err := 7, bad := M.pos }, -1)) ∨ (M.err = 0 ∧ M.ar.length < 24 ∧ addM M x = ({ M with ar := M.ar ++ [x] }, (M.ar.length : Int))) := by
  unfold addM failM
  by_cases h1 : M.err = 0
  · rw [if_pos h1]
    by_cases h2 : 24 ≤ M.ar.length
    · rw [if_pos h2, if_pos h1]; exact .inr (.inl ⟨h1, h2, rfl⟩)
    · rw [if_neg h2]; exact .inr (.inr ⟨h1, by omega, rfl⟩)
  · rw [if_neg h1]; exact .inl ⟨h1, rfl⟩
/-- What add leaves. -/
theorem fr_add {S0 S : FoS} {M : Mc} (h : FR S0 S M) (x : NodeT) : ∃ A N E B, s206 S x = some ({ S with arena := A, nn := N, err := E, bad := B }, (addM M x).2) ∧ FR S0 { S with arena := A, nn := N, err := E, bad := B } (addM M x).1 := by
  rcases addM_cases M x with ⟨h1, e⟩ | ⟨h1, h2, e⟩ | ⟨h1, h2, e⟩
  · refine ⟨S.arena, S.nn, S.err, S.bad, ?_, by rw [e]; exact h⟩
    unfold s206
    rw [if_neg (by rw [h.err]; exact h1), e]
  · refine ⟨S.arena, S.nn, 7, S.pos, ?_, by rw [e]; exact { h with err := rfl, bad := h.pos }⟩
    unfold s206 s173
    rw [if_pos (by rw [h.err]; exact h1), if_pos (by rw [h.nn]; omega), if_pos (by rw [h.err]; exact h1), e]
  · refine ⟨List.set S.arena M.ar.length x, (M.ar.length : Int) + 1, S.err, S.bad, ?_, ?_⟩
    · unfold s206
      rw [if_pos (by rw [h.err]; exact h1), h.nn, if_neg (by omega)]
      have hx : S.arena[M.ar.length]? = some (S.arena.getD M.ar.length dNode) := getD_get' (by rw [h.arl]; omega)
      rw [bindT (getT (x := S.arena.getD M.ar.length dNode) (by omega) (by omega) (by rw [Int.toNat_natCast]; exact hx))]
      rw [ckF (by constructor <;> omega), ckF (by constructor <;> omega), e, Int.toNat_natCast, show ((M.ar.length : Int) + 1 - 1) = (M.ar.length : Int) by omega]
    · rw [e]
      exact { h with arl := by rw [List.length_set]; exact h.arl, ar := pre_push h.ar (by rw [h.arl]; omega), nn := by simp }
theorem addM_facts (M : Mc) (x : NodeT) (ha : M.ar.length ≤ 24) : (addM M x).1 = { M with ar := (addM M x).1.ar, err := (addM M x).1.err, bad := (addM M x).1.bad } ∧
    M.ar.length ≤ (addM M x).1.ar.length ∧ (addM M x).1.ar.length ≤ 24 ∧ (addM M x).2 < (addM M x).1.ar.length ∧ -1 ≤ (addM M x).2 := by
  rcases addM_cases M x with ⟨h1, e⟩ | ⟨h1, h2, e⟩ | ⟨h1, h2, e⟩
  · rw [e]; exact ⟨rfl, Nat.le_refl _, ha, by simp only; omega, by simp only; omega⟩
  · rw [e]; exact ⟨rfl, Nat.le_refl _, ha, by simp only; omega, by simp only; omega⟩
  · rw [e]; exact ⟨rfl, by simp, by simp; omega, by simp; omega, by show (-1 : Int) ≤ (M.ar.length : Int); omega⟩
/-- How many operators wait among the marks. -/
def bins : List MarkT → Nat
  | [] => 0
  | m :: O => (if m.kind = 2 then 1 else 0) + bins O
/-- Inv with h operands beyond those that the operators hold. -/
structure J (nt : Nat) (M : Mc) (h : Nat) : Prop where
  ar : M.ar.length ≤ 24
  v : M.V.length = bins M.O + h
  sum : M.O.length + M.V.length ≤ M.k
  k : M.k < nt
  vv : ∀ x ∈ M.V, x < (M.ar.length : Int)
  on : ∀ m ∈ M.O, 0 ≤ m.n ∧ m.n ≤ M.k ∧ (m.kind ≠ 4 → m.n = 0)
theorem fr_top {S0 S : FoS} {M : Mc} (h : FR S0 S M) (hl : M.O.length ≤ 41) : s170 S = some (strO M.O) := by
  unfold s170
  cases hO : M.O with
  | nil => rw [if_pos (by rw [h.no, hO]; rfl)]; rfl
  | cons m O =>
    have hl' : O.length < 41 := by rw [hO] at hl; simp only [List.length_cons] at hl; omega
    have e1 : S.no - 1 = (O.length : Int) := by rw [h.no, hO]; simp
    rw [if_neg (by rw [h.no, hO]; simp only [List.length_cons]; omega), e1, ckF (by constructor <;> omega)]
    have ht : S.ops[O.length]? = some m := stk_top (by rw [← hO]; exact h.o)
    rw [bindT (getT (x := m) (by omega) (by omega) (by rw [Int.toNat_natCast]; exact ht))]
    show _ = some (if m.kind = 2 then s169 m.op else 0)
    split <;> rfl
theorem addM_O (M : Mc) (x : NodeT) : (addM M x).1.O = M.O ∧ (addM M x).1.V = M.V ∧ (addM M x).1.k = M.k ∧ (addM M x).1.hv = M.hv ∧ (addM M x).1.done = M.done ∧ (addM M x).1.pos = M.pos := by
  rcases addM_cases M x with ⟨_, e⟩ | ⟨_, _, e⟩ | ⟨_, _, e⟩ <;> rw [e] <;> exact ⟨rfl, rfl, rfl, rfl, rfl, rfl⟩
theorem strO_bin {O : List MarkT} (h : strO O ≠ 0) : ∃ m O', O = m :: O' ∧ m.kind = 2 := by
  cases O with
  | nil => exact absurd rfl h
  | cons m O' =>
    refine ⟨m, O', rfl, ?_⟩
    by_cases hk : m.kind = 2
    · exact hk
    · exact absurd (by show (if m.kind = 2 then s169 m.op else 0) = 0; rw [if_neg hk]) h
theorem join_ok {S0 S : FoS} {M : Mc} {nt : Nat} (h : FR S0 S M) (j : J nt M 1) (hn : nt ≤ 41) (hm : strO M.O ≠ 0) :
    ∃ S', s171 S = some S' ∧ FR S0 S' (joinM M) ∧ J nt (joinM M) 1 ∧ (joinM M).hv = M.hv ∧ (joinM M).k = M.k ∧ (joinM M).O = M.O.tail ∧ (joinM M).pos = M.pos ∧ (joinM M).done = M.done := by
  obtain ⟨m, O, hO, hk⟩ := strO_bin hm
  have jv := j.v
  have js := j.sum
  have jk := j.k
  rw [hO] at jv js
  simp only [bins, if_pos hk, List.length_cons] at jv js
  obtain ⟨b, a, V, hV⟩ : ∃ b a V, M.V = b :: a :: V := by
    match hh : M.V with
    | [] => exfalso; rw [hh] at jv; simp only [List.length_nil] at jv; omega
    | [x] => exfalso; rw [hh] at jv; simp only [List.length_nil, List.length_cons] at jv; omega
    | b :: a :: V => exact ⟨b, a, V, rfl⟩
  rw [hV] at jv js
  simp only [List.length_cons] at jv js
  have hv := h.v
  have ho := h.o
  rw [hV] at hv
  rw [hO] at ho
  have e1 : S.no - 1 = (O.length : Int) := by rw [h.no, hO]; simp
  have e2 : S.nv - 1 = ((V.length + 1 : Nat) : Int) := by rw [h.nv, hV]; simp
  have e3 : (((V.length + 1 : Nat) : Int) - 1) = (V.length : Int) := by omega
  have h1 : FR S0 { S with nv := ((V.length + 1 : Nat) : Int), no := (O.length : Int) } { M with O := O, V := a :: V } :=
    { h with v := stk_pop hv, nv := by simp, o := stk_pop ho, no := rfl }
  obtain ⟨A, N, E, B, h2, h3⟩ := fr_add h1 (binN m.op a b)
  have hj : joinM M = { (addM { M with O := O, V := a :: V } (binN m.op a b)).1 with V := (addM { M with O := O, V := a :: V } (binN m.op a b)).2 :: V } := by
    unfold joinM; rw [hO, hV]
  obtain ⟨f1, f2, f3, f4, f5⟩ := addM_facts { M with O := O, V := a :: V } (binN m.op a b) j.ar
  obtain ⟨g1, g2, g3, g4, g5, g6⟩ := addM_O { M with O := O, V := a :: V } (binN m.op a b)
  refine ⟨{ S with arena := A, nn := N, opnd := List.set S.opnd V.length (addM { M with O := O, V := a :: V } (binN m.op a b)).2, nv := ((V.length + 1 : Nat) : Int), no := (O.length : Int), err := E, bad := B }, ?_, ?_, ?_, ?_, ?_, ?_, ?_, ?_⟩
  · unfold s171
    rw [e1, e2, e3, ckF (by constructor <;> omega), ckF (by constructor <;> omega)]
    rw [bindT (getT (x := m) (by omega) (by omega) (by rw [Int.toNat_natCast]; exact stk_top ho))]
    rw [ckF (by constructor <;> omega)]
    rw [bindT (getT (x := a) (by omega) (by omega) (by rw [Int.toNat_natCast]; exact stk_below hv))]
    rw [bindT (getT (x := b) (by omega) (by omega) (by rw [Int.toNat_natCast]; exact stk_top hv))]
    refine (bindT h2).trans ?_
    rw [Int.toNat_natCast]
  · rw [hj]
    have hv3 := h3.v
    rw [g2] at hv3
    exact { h3 with vl := by rw [List.length_set]; exact h.vl, v := stk_set hv3 (by rw [h3.vl]; omega), nv := by simp }
  · rw [hj]
    exact ⟨f3, by simp only [g1, List.length_cons]; omega, by simp only [g1, g3, List.length_cons]; omega, by simp only [g3]; exact jk, fun x hx => by
      simp only [List.mem_cons] at hx
      rcases hx with rfl | hx
      · exact f4
      · have := j.vv x (by rw [hV]; simp [hx])
        have h9 : M.ar.length ≤ (addM { M with O := O, V := a :: V } (binN m.op a b)).1.ar.length := f2
        simp only
        omega, fun x hx => by
      simp only [g1] at hx
      simp only [g3]
      exact j.on x (by rw [hO]; exact List.mem_cons_of_mem _ hx)⟩
  · rw [hj]; exact g4
  · rw [hj]; exact g3
  · rw [hj, hO]; exact g1
  · rw [hj]; exact g6
  · rw [hj]; exact g5
theorem settle_neg {M : Mc} {m : MarkT} {O : List MarkT} {a : Int} {V : List Int} (hO : M.O = m :: O) (hV : M.V = a :: V) (hk : m.kind = 1) :
    settleM M = settleM { (addM { M with O := O } (negN a)).1 with V := (addM { M with O := O } (negN a)).2 :: V } := by
  have g := (addM_O { M with O := O } (negN a)).1
  show settleN (M.O.length + 1) M = settleN ((addM { M with O := O } (negN a)).1.O.length + 1) _
  rw [g, hO]
  show settleN (O.length + 1 + 1) M = _
  conv => lhs; unfold settleN
  rw [hO, hV]
  simp only [hk, if_true]
theorem settle_fin {M : Mc} (h : ∀ m O, M.O = m :: O → m.kind ≠ 1) : settleM M = finM M := by
  unfold settleM
  match hO : M.O, hV : M.V with
  | [], _ => show settleN (0 + 1) M = _; unfold settleN; rw [hO]
  | m :: O, [] => show settleN ((m :: O).length + 1) M = _; unfold settleN; rw [hO, hV]
  | m :: O, a :: V =>
    show settleN ((m :: O).length + 1) M = _
    unfold settleN
    rw [hO, hV]
    simp only [if_neg (h m O hO)]
theorem s169_bd (x : Int) : 1 ≤ s169 x ∧ s169 x ≤ 3 := by
  unfold s169
  repeat' split
  all_goals omega
theorem bins_le (O : List MarkT) : bins O ≤ O.length := by
  induction O with
  | nil => exact Nat.le_refl _
  | cons m O ih => simp only [bins, List.length_cons]; split <;> omega
theorem fin_ok {S0 S : FoS} {M : Mc} {nt n : Nat} (h : FR S0 S M) (j : J nt M 1) (hn : nt ≤ 41) :
    ∃ S', ((s170 S).bind fun r75 => (if r75 = (3 : Int) then (s171 S).bind fun r80 => k207_1 r80 else k207_1 S)) = some S' ∧ FR S0 S' (finM M) ∧ J nt (finM M) 1 ∧ (finM M).hv = true ∧ (finM M).k = M.k ∧ (finM M).O.length ≤ M.O.length ∧ (finM M).done = M.done := by
  have js := j.sum
  have jk := j.k
  rw [bindT (fr_top h (by omega))]
  unfold finM
  by_cases h3 : strO M.O = 3
  · rw [if_pos h3, if_pos h3]
    obtain ⟨S', e1, f1, j1, e2, e3, e4, e5, e6⟩ := join_ok h j hn (by omega)
    rw [bindT e1]
    exact ⟨_, rfl, { f1 with hv := rfl }, ⟨j1.ar, j1.v, j1.sum, j1.k, j1.vv, j1.on⟩, rfl, e3, by simp only [e4, List.length_tail]; omega, e6⟩
  · rw [if_neg h3, if_neg h3]
    exact ⟨_, rfl, { h with hv := rfl }, ⟨j.ar, j.v, j.sum, j.k, j.vv, j.on⟩, rfl, rfl, Nat.le_refl _, rfl⟩
theorem settle_ok {S0 : FoS} {nt n : Nat} (hn : nt ≤ 41) : ∀ (m : Nat) (M : Mc) (S : FoS), M.O.length < m → FR S0 S M → J nt M 1 →
    ∃ S', l207_4 n m S = some S' ∧ FR S0 S' (settleM M) ∧ J nt (settleM M) 1 ∧ (settleM M).hv = true ∧ (settleM M).k = M.k ∧ (settleM M).O.length ≤ M.O.length ∧ (settleM M).done = M.done := by
  intro m
  induction m with
  | zero => intro M S h; omega
  | succ m ih =>
    intro M S hm h j
    have js := j.sum
    have jk := j.k
    show ∃ S', l207_4_st n (l207_4 n m) S = some S' ∧ _
    unfold l207_4_st
    cases hO : M.O with
    | nil =>
      rw [if_neg (by rw [h.no, hO]; simp)]
      rw [settle_fin (by intro m O h; rw [hO] at h; cases h)]
      have := fin_ok (n := n) h j hn
      rw [hO] at this
      exact this
    | cons mk O =>
      have ho := h.o
      rw [hO] at ho js
      simp only [List.length_cons] at js
      have e1 : S.no - 1 = (O.length : Int) := by rw [h.no, hO]; simp
      rw [if_pos (by rw [h.no, hO]; simp only [List.length_cons]; omega), e1, ckF (by constructor <;> omega)]
      rw [bindT (getT (x := mk) (by omega) (by omega) (by rw [Int.toNat_natCast]; exact stk_top ho))]
      by_cases hk : mk.kind = 1
      · rw [if_pos hk]
        obtain ⟨a, V, hV⟩ : ∃ a V, M.V = a :: V := by
          cases hh : M.V with
          | nil => exfalso; have := j.v; rw [hh] at this; simp only [List.length_nil] at this; omega
          | cons a V => exact ⟨a, V, rfl⟩
        have hv := h.v
        rw [hV] at hv js
        simp only [List.length_cons] at js
        have e2 : S.nv - 1 = (V.length : Int) := by rw [h.nv, hV]; simp
        rw [e2, ckF (by constructor <;> omega)]
        rw [bindT (getT (x := a) (by omega) (by omega) (by rw [Int.toNat_natCast]; exact stk_top hv))]
        have h1 : FR S0 { S with no := (O.length : Int) } { M with O := O } := { h with o := stk_pop ho, no := rfl }
        obtain ⟨A, N, E, B, h2, h3⟩ := fr_add h1 (negN a)
        obtain ⟨f1, f2, f3, f4, f5⟩ := addM_facts { M with O := O } (negN a) j.ar
        obtain ⟨g1, g2, g3, g4, g5, g6⟩ := addM_O { M with O := O } (negN a)
        have h2' : s206 { S with no := (O.length : Int) } ⟨6, 0, a, -1, 0, ⟨0, 0, false, false⟩, ⟨0, 0, false, false⟩⟩ = _ := h2
        rw [bindT h2', Int.toNat_natCast]
        rw [settle_neg hO hV hk]
        have hv3 := h3.v
        rw [g2] at hv3
        have hv3' : List.take (a :: V).length S.opnd = (a :: V).reverse := by rw [← hV]; exact hv3
        have h4 : FR S0 { S with arena := A, nn := N, opnd := List.set S.opnd V.length (addM { M with O := O } (negN a)).2, no := (O.length : Int), err := E, bad := B } { (addM { M with O := O } (negN a)).1 with V := (addM { M with O := O } (negN a)).2 :: V } :=
          { h3 with vl := by rw [List.length_set]; exact h.vl, v := stk_set hv3' (by rw [h.vl]; omega), nv := by rw [h.nv, hV]; simp }
        have jv := j.v
        rw [hO, hV] at jv
        simp only [bins, hk, List.length_cons] at jv
        have j4 : J nt { (addM { M with O := O } (negN a)).1 with V := (addM { M with O := O } (negN a)).2 :: V } 1 :=
          ⟨f3, by simp only [g1, List.length_cons]; simpa using jv, by simp only [g1, g3, List.length_cons]; omega, by simp only [g3]; exact jk, fun x hx => by
            simp only [List.mem_cons] at hx
            rcases hx with rfl | hx
            · exact f4
            · have := j.vv x (by rw [hV]; simp [hx])
              have h9 : M.ar.length ≤ (addM { M with O := O } (negN a)).1.ar.length := f2
              simp only
              omega, fun x hx => by
            simp only [g1] at hx
            simp only [g3]
            exact j.on x (by rw [hO]; exact List.mem_cons_of_mem _ hx)⟩
        obtain ⟨S', e5, f5', j5, e6, e7, e8, e9⟩ := ih _ _ (by simp only [g1]; rw [hO] at hm; simp only [List.length_cons] at hm; omega) h4 j4
        refine ⟨S', e5, f5', j5, e6, by rw [e7]; exact g3, ?_, by rw [e9]; exact g5⟩
        refine Nat.le_trans e8 ?_
        show (addM { M with O := O } (negN a)).1.O.length ≤ _
        rw [g1]
        simp
      · rw [if_neg hk]
        rw [settle_fin (by intro m O' h'; rw [hO] at h'; injection h' with h1 _; rw [← h1]; exact hk)]
        have := fin_ok (n := n) h j hn
        rw [hO] at this
        exact this
theorem whole_ok {S0 S : FoS} {M : Mc} {nt n : Nat} (h : FR S0 S M) (j : J nt M 0) (hs : M.O.length + M.V.length + 1 ≤ M.k) (hn : nt ≤ 41) (hf : 100 ≤ n) (x : NodeT) :
    ∃ S', s176 n S x = some S' ∧ FR S0 S' (wholeM M x) ∧ J nt (wholeM M x) 1 ∧ (wholeM M x).hv = true ∧ (wholeM M x).k = M.k ∧ (wholeM M x).O.length ≤ M.O.length ∧ (wholeM M x).done = M.done := by
  have jk := j.k
  obtain ⟨A, N, E, B, h2, h3⟩ := fr_add h x
  obtain ⟨f1, f2, f3, f4, f5⟩ := addM_facts M x j.ar
  obtain ⟨g1, g2, g3, g4, g5, g6⟩ := addM_O M x
  unfold s176
  rw [bindT h2, h.nv]
  have hx : S.opnd[M.V.length]? = some (S.opnd.getD M.V.length 0) := getD_get' (by rw [h.vl]; omega)
  rw [bindT (getT (x := S.opnd.getD M.V.length 0) (by omega) (by omega) (by rw [Int.toNat_natCast]; exact hx)), ckF (by constructor <;> omega), Int.toNat_natCast]
  have hv3 := h3.v
  rw [g2] at hv3
  have h4 : FR S0 { S with arena := A, nn := N, opnd := List.set S.opnd M.V.length (addM M x).2, nv := (M.V.length : Int) + 1, err := E, bad := B } { (addM M x).1 with V := (addM M x).2 :: M.V } :=
    { h3 with vl := by rw [List.length_set]; exact h.vl, v := stk_push hv3 (by rw [h.vl]; omega), nv := by simp }
  have j4 : J nt { (addM M x).1 with V := (addM M x).2 :: M.V } 1 :=
    ⟨f3, by simp only [g1, List.length_cons, j.v], by simp only [g1, g3, List.length_cons]; omega, by simp only [g3]; exact jk, fun y hy => by
      simp only [List.mem_cons] at hy
      rcases hy with rfl | hy
      · exact f4
      · have := j.vv y hy
        simp only
        omega, fun y hy => by
      simp only [g1] at hy
      simp only [g3]
      exact j.on y hy⟩
  obtain ⟨S', e5, f5', j5, e6, e7, e8, e9⟩ := settle_ok (n := n) hn n _ _ (by simp only [g1]; omega) h4 j4
  have hb : (s207 n { S with arena := A, nn := N, opnd := List.set S.opnd M.V.length (addM M x).2, nv := (M.V.length : Int) + 1, err := E, bad := B }) = some S' := e5
  rw [bindT hb]
  refine ⟨S', rfl, f5', j5, e6, by rw [← g3]; exact e7, ?_, by rw [← g5]; exact e9⟩
  refine Nat.le_trans e8 ?_
  show (addM M x).1.O.length ≤ _
  rw [g1]
  exact Nat.le_refl _
/-- The tokens as the machine meets them. -/
structure Tk (nt : Nat) (S0 : FoS) (T : Nat → TokT) : Prop where
  le : nt ≤ 41
  at_ : ∀ k, k < nt → S0.toks[k]? = some (T k)
  next : ∀ k, k < nt → (T k).kind ≠ 0 → k + 1 < nt
theorem failM_O (M : Mc) (e p : Int) : (failM M e p).O = M.O ∧ (failM M e p).V = M.V ∧ (failM M e p).k = M.k ∧ (failM M e p).hv = M.hv ∧ (failM M e p).done = M.done ∧ (failM M e p).ar = M.ar ∧ (failM M e p).pos = M.pos := by
  unfold failM
  split <;> exact ⟨rfl, rfl, rfl, rfl, rfl, rfl, rfl⟩
theorem lookM_O (T : Nat → TokT) (M : Mc) : (lookM T M).O = M.O ∧ (lookM T M).V = M.V ∧ (lookM T M).k = M.k ∧ (lookM T M).hv = M.hv ∧ (lookM T M).done = M.done ∧ (lookM T M).ar = M.ar ∧ (lookM T M).pos = (T M.k).at_ := by
  unfold lookM
  split
  · have := failM_O { M with pos := (T M.k).at_ } 2 (T M.k).at_
    exact ⟨this.1, this.2.1, this.2.2.1, this.2.2.2.1, this.2.2.2.2.1, this.2.2.2.2.2.1, this.2.2.2.2.2.2⟩
  · exact ⟨rfl, rfl, rfl, rfl, rfl, rfl, rfl⟩
theorem J.same {nt h : Nat} {M N : Mc} (j : J nt M h) (e1 : N.O = M.O) (e2 : N.V = M.V) (e3 : M.k ≤ N.k) (e4 : N.k < nt) (e5 : N.ar = M.ar) : J nt N h :=
  ⟨by rw [e5]; exact j.ar, by rw [e1, e2]; exact j.v, by rw [e1, e2]; have := j.sum; omega, e4, by rw [e2, e5]; exact j.vv, by
    rw [e1]
    intro m hm
    have := j.on m hm
    omega⟩
theorem J.fail {nt h : Nat} {M : Mc} (j : J nt M h) (e p : Int) : J nt (failM M e p) h := by
  obtain ⟨a, b, c, d, f, g, i⟩ := failM_O M e p
  exact j.same a b (by omega) (by rw [c]; exact j.k) g
theorem J.look {nt h : Nat} {M : Mc} {T : Nat → TokT} (j : J nt M h) : J nt (lookM T M) h := by
  obtain ⟨a, b, c, d, f, g, i⟩ := lookM_O T M
  exact j.same a b (by omega) (by rw [c]; exact j.k) g
theorem J.take {nt h : Nat} {M : Mc} {T : Nat → TokT} (j : J nt M h) (hk : M.k + 1 < nt) : J nt (takeM T M) h := j.same rfl rfl (Nat.le_succ _) hk rfl
theorem failM_err {M : Mc} {e p : Int} (he : e ≠ 0) : (failM M e p).err ≠ 0 := by
  unfold failM
  by_cases h : M.err = 0
  · rw [if_pos h]; exact he
  · rw [if_neg h]; exact h
/-- A step comes out well: the tables follow; the invariant stands, or there is a fault. -/
def Good (S0 : FoS) (nt : Nat) (o : Option FoS) (M : Mc) : Prop := ∃ S', o = some S' ∧ FR S0 S' M ∧ (M.err ≠ 0 ∨ J nt M (if M.hv = true then 1 else 0))
theorem Good.bindS {S0 : FoS} {nt : Nat} {o : Option FoS} {M : Mc} (h : Good S0 nt o M) : Good S0 nt (o.bind fun r => some r) M := by
  obtain ⟨S', e, h2⟩ := h
  exact ⟨S', by rw [e]; rfl, h2⟩
theorem Good.failed {S0 S : FoS} {nt : Nat} {M : Mc} {e p : Int} (h : FR S0 S M) (he : e ≠ 0) : Good S0 nt (some (s173 S e p)) (failM M e p) := ⟨_, rfl, fr_fail h e p, .inl (failM_err he)⟩
theorem s208_0 (f : Int) : s208 f 0 = false := by
  unfold s208
  repeat' split
  all_goals decide
theorem end_ok {S0 S : FoS} {M : Mc} {nt n : Nat} {T : Nat → TokT} (tk : Tk nt S0 T) (hf : 100 ≤ n) (h : FR S0 S M) {h0 : Nat} (m : MarkT) (O : List MarkT) (hO : M.O = m :: O)
    (hon : ∀ x ∈ O, 0 ≤ x.n ∧ x.n ≤ M.k ∧ (x.kind ≠ 4 → x.n = 0))
    (jar : M.ar.length ≤ 24) (jv : M.V.length = bins M.O + h0) (jsum : M.O.length + M.V.length ≤ M.k) (jk : M.k < nt) (jvv : ∀ x ∈ M.V, x < (M.ar.length : Int))
    (hh : (m.kind = 3 ∧ h0 = 1) ∨ (m.kind = 4 ∧ h0 = 0) ∨ (m.kind ≠ 3 ∧ m.n = 0)) :
    Good S0 nt (k172_4 n (T M.k) S m) (endM T (T M.k) M m O) := by
  have hn := tk.le
  unfold k172_4 endM
  by_cases h41 : (T M.k).kind = 41
  · rw [if_pos h41, if_pos h41]
    have hk1 := tk.next M.k jk (by omega)
    obtain ⟨S1, e1, h1⟩ := fr_take h (by omega) (tk.at_ _ jk)
    rw [bindT e1]
    have ho := h1.o
    have hO1 : (takeM T M).O = m :: O := hO
    rw [hO1] at ho
    have e2 : S1.no - 1 = (O.length : Int) := by rw [h1.no, hO1]; simp
    rw [e2, ckF (by rw [hO] at jsum; simp only [List.length_cons] at jsum; constructor <;> omega)]
    have h2 : FR S0 { S1 with no := (O.length : Int) } { takeM T M with O := O } := { h1 with o := stk_pop ho, no := rfl }
    have hlen : M.O.length = O.length + 1 := by rw [hO]; rfl
    have hb : bins M.O = (if m.kind = 2 then 1 else 0) + bins O := by rw [hO]; rfl
    by_cases h3 : m.kind = 3
    · rw [if_pos h3, if_pos h3]
      rw [if_neg (by omega)] at hb
      have j2 : J nt { takeM T M with O := O } 1 := ⟨jar, by show M.V.length = bins O + 1; omega, by show O.length + M.V.length ≤ M.k + 1; omega, hk1, jvv, fun x hx => by have := hon x hx; show 0 ≤ x.n ∧ x.n ≤ ((M.k + 1 : Nat) : Int) ∧ (x.kind ≠ 4 → x.n = 0); omega⟩
      obtain ⟨S', e5, f5, j5, e6, e7, e8, e9⟩ := settle_ok (n := n) hn n _ _ (by show O.length < n; omega) h2 j2
      have e5' : s207 n { S1 with no := (O.length : Int) } = some S' := e5
      rw [bindT e5']
      exact ⟨S', rfl, f5, .inr (by rw [if_pos e6]; exact j5)⟩
    · rw [if_neg h3, if_neg h3]
      by_cases h4 : s208 m.op m.n = true
      · rw [if_pos h4, if_pos h4]
        have h5 : m.n ≠ 0 := by intro h0; rw [h0, s208_0] at h4; cases h4
        rw [if_neg (by omega)] at hb
        have j2 : J nt { takeM T M with O := O } 0 := ⟨jar, by show M.V.length = bins O + 0; omega, by show O.length + M.V.length ≤ M.k + 1; omega, hk1, jvv, fun x hx => by have := hon x hx; show 0 ≤ x.n ∧ x.n ≤ ((M.k + 1 : Nat) : Int) ∧ (x.kind ≠ 4 → x.n = 0); omega⟩
        obtain ⟨S', e5, f5, j5, e6, e7, e8, e9⟩ := whole_ok (n := n) h2 j2 (by show O.length + M.V.length + 1 ≤ M.k + 1; omega) hn hf (callN m.op m.link m.n)
        exact ⟨S', (bindT e5).trans rfl, f5, .inr (by rw [if_pos e6]; exact j5)⟩
      · rw [if_neg h4, if_neg h4]
        exact Good.failed h2 (by decide)
  · rw [if_neg h41, if_neg h41]
    exact Good.failed h (by decide)
theorem closeM_nil {T : Nat → TokT} {t : TokT} {M : Mc} (hO : M.O = []) : closeM T t M = { (if t.kind = 0 then M else failM M 3 t.at_) with done := true } := by
  unfold closeM; rw [hO]
theorem closeM_call {T : Nat → TokT} {t : TokT} {M : Mc} {m : MarkT} {O : List MarkT} {a : Int} {V : List Int} (hO : M.O = m :: O) (hV : M.V = a :: V) (h4 : m.kind = 4) : closeM T t M =
    if t.kind = 44 then { takeM T { (addM { M with V := V } (argN a m.link)).1 with O := { m with n := m.n + 1, link := (addM { M with V := V } (argN a m.link)).2 } :: O } with hv := false }
    else endM T t { (addM { M with V := V } (argN a m.link)).1 with O := { m with n := m.n + 1, link := (addM { M with V := V } (argN a m.link)).2 } :: O } { m with n := m.n + 1, link := (addM { M with V := V } (argN a m.link)).2 } O := by
  obtain ⟨k, pos, ar, V0, O0, hv, done, err, bad⟩ := M
  simp only at hO hV
  subst hO hV
  unfold closeM
  simp only [if_pos h4]
theorem closeM_other {T : Nat → TokT} {t : TokT} {M : Mc} {m : MarkT} {O : List MarkT} (hO : M.O = m :: O) (h4 : m.kind ≠ 4) : closeM T t M = endM T t M m O := by
  obtain ⟨k, pos, ar, V0, O0, hv, done, err, bad⟩ := M
  simp only at hO
  subst hO
  unfold closeM
  simp only [if_neg h4]
theorem close_ok {S0 S : FoS} {M : Mc} {nt n : Nat} {T : Nat → TokT} (tk : Tk nt S0 T) (hf : 100 ≤ n) (h : FR S0 S M) (j : J nt M 1) (hv : M.hv = true) :
    Good S0 nt (s172 n S (T M.k)) (closeM T (T M.k) M) := by
  have hn := tk.le
  have js := j.sum
  have jk := j.k
  have jv := j.v
  unfold s172
  cases hO : M.O with
  | nil =>
    rw [closeM_nil hO]
    rw [if_pos (by rw [h.no, hO]; rfl)]
    unfold k172_1
    by_cases h0 : (T M.k).kind = 0
    · simp only [if_pos h0]
      exact ⟨_, rfl, { h with done := rfl }, .inr (by simp only [hv, if_true]; exact j.same rfl rfl (Nat.le_refl _) jk rfl)⟩
    · simp only [if_neg h0]
      exact ⟨_, rfl, { (fr_fail h 3 (T M.k).at_) with done := rfl }, .inl (failM_err (by decide))⟩
  | cons m O =>
    have ho := h.o
    rw [hO] at ho js jv
    simp only [List.length_cons] at js
    have e1 : S.no - 1 = (O.length : Int) := by rw [h.no, hO]; simp
    rw [if_neg (by rw [h.no, hO]; simp only [List.length_cons]; omega), e1, ckF (by constructor <;> omega)]
    rw [bindT (getT (x := m) (by omega) (by omega) (by rw [Int.toNat_natCast]; exact stk_top ho))]
    have hmon := j.on m (by rw [hO]; simp)
    have hon : ∀ x ∈ O, 0 ≤ x.n ∧ x.n ≤ M.k ∧ (x.kind ≠ 4 → x.n = 0) := fun x hx => j.on x (by rw [hO]; exact List.mem_cons_of_mem _ hx)
    by_cases h4 : m.kind = 4
    · rw [if_pos h4]
      obtain ⟨a, V, hV⟩ : ∃ a V, M.V = a :: V := by
        cases hh : M.V with
        | nil => exfalso; rw [hh] at jv; simp only [List.length_nil] at jv; omega
        | cons a V => exact ⟨a, V, rfl⟩
      have hvv := h.v
      rw [hV] at hvv js jv
      simp only [List.length_cons] at js jv
      simp only [bins, h4] at jv
      have e2 : S.nv - 1 = (V.length : Int) := by rw [h.nv, hV]; simp
      rw [e2, ckF (by constructor <;> omega)]
      rw [bindT (getT (x := a) (by omega) (by omega) (by rw [Int.toNat_natCast]; exact stk_top hvv))]
      have h1 : FR S0 { S with nv := (V.length : Int) } { M with V := V } := { h with v := stk_pop hvv, nv := rfl }
      obtain ⟨A, N, E, B, h2, h3⟩ := fr_add h1 (argN a m.link)
      obtain ⟨f1, f2, f3, f4, f5⟩ := addM_facts { M with V := V } (argN a m.link) j.ar
      obtain ⟨g1, g2, g3, g4, g5, g6⟩ := addM_O { M with V := V } (argN a m.link)
      have h2' : s206 { S with nv := (V.length : Int) } ⟨9, 0, a, m.link, 0, ⟨0, 0, false, false⟩, ⟨0, 0, false, false⟩⟩ = _ := h2
      rw [bindT h2', ckF (by constructor <;> omega), Int.toNat_natCast]
      rw [closeM_call hO hV h4]
      generalize hr : addM { M with V := V } (argN a m.link) = r at *
      have ho3 := h3.o
      rw [g1] at ho3
      have ho3' : List.take (m :: O).length S.ops = (m :: O).reverse := by rw [← hO]; exact ho3
      have h6 : FR S0 { S with arena := A, nn := N, nv := (V.length : Int), ops := List.set S.ops O.length { m with n := m.n + 1, link := r.2 }, err := E, bad := B } { r.1 with O := { m with n := m.n + 1, link := r.2 } :: O } :=
        { h3 with ol := by rw [List.length_set]; exact h.ol, o := stk_set ho3' (by rw [h.ol]; omega), no := by rw [h.no, hO]; simp }
      have hk6 : ({ r.1 with O := { m with n := m.n + 1, link := r.2 } :: O } : Mc).k = M.k := g3
      have hVV : ∀ x ∈ r.1.V, x < (r.1.ar.length : Int) := by
        rw [g2]
        intro x hx
        have := j.vv x (by rw [hV]; exact List.mem_cons_of_mem _ hx)
        have h9 : M.ar.length ≤ r.1.ar.length := f2
        omega
      have hbb : bins ({ m with n := m.n + 1, link := r.2 } :: O) = bins O := by simp only [bins, h4]; simp
      by_cases h44 : (T M.k).kind = 44
      · rw [if_pos h44, if_pos h44]
        have hk1 := tk.next M.k jk (by omega)
        obtain ⟨S1, e7, h7⟩ := fr_take (T := T) h6 (by rw [hk6]; omega) (by rw [hk6]; exact tk.at_ _ jk)
        rw [bindT e7]
        refine ⟨_, rfl, { h7 with hv := rfl }, .inr ?_⟩
        refine ⟨f3, ?_, ?_, ?_, hVV, ?_⟩
        · show r.1.V.length = bins ({ m with n := m.n + 1, link := r.2 } :: O) + 0
          rw [g2, hbb]; simp at jv; omega
        · show (({ m with n := m.n + 1, link := r.2 } : MarkT) :: O).length + r.1.V.length ≤ r.1.k + 1
          rw [g2, g3]; simp only [List.length_cons]; omega
        · show r.1.k + 1 < nt
          rw [g3]; exact hk1
        · intro x hx
          show 0 ≤ x.n ∧ x.n ≤ ((r.1.k + 1 : Nat) : Int) ∧ _
          rw [show r.1.k = M.k from g3]
          have hx : x ∈ ({ m with n := m.n + 1, link := r.2 } : MarkT) :: O := hx
          rcases List.mem_cons.1 hx with rfl | hx
          · simp only; omega
          · have := hon x hx; omega
      · rw [if_neg h44, if_neg h44]
        have := end_ok (n := n) tk hf h6 (h0 := 0) { m with n := m.n + 1, link := r.2 } O rfl (fun x hx => by have := hon x hx; rw [hk6]; exact this) f3
          (by show r.1.V.length = bins ({ m with n := m.n + 1, link := r.2 } :: O) + 0; rw [g2, hbb]; simp at jv; omega)
          (by show (({ m with n := m.n + 1, link := r.2 } : MarkT) :: O).length + r.1.V.length ≤ r.1.k; rw [g2, g3]; simp only [List.length_cons]; omega)
          (by rw [hk6]; exact jk) hVV (.inr (.inl ⟨h4, rfl⟩))
        rw [hk6] at this
        exact this
    · rw [if_neg h4, closeM_other hO h4]
      exact end_ok (n := n) tk hf h m O hO hon j.ar j.v j.sum jk j.vv (by
        by_cases h3 : m.kind = 3
        · exact .inl ⟨h3, rfl⟩
        · exact .inr (.inr ⟨h3, hmon.2.2 h4⟩))
theorem isR_iff {ns : List NodeT} {a : Int} : isR ns a = true ↔ 0 ≤ a ∧ a < (ns.length : Int) ∧ (ns.getD a.toNat dNode).kind = 4 := by
  unfold isR
  split
  · rename_i h
    rw [decide_eq_true_eq]
    exact ⟨fun h2 => ⟨h.1, h.2, h2⟩, fun h2 => h2.2.2⟩
  · rename_i h
    exact ⟨fun h2 => (by cases h2), fun h2 => absurd ⟨h2.1, h2.2.1⟩ h⟩
theorem op_ok {S0 S : FoS} {M : Mc} {nt n : Nat} {T : Nat → TokT} (tk : Tk nt S0 T) (hf : 100 ≤ n) (h : FR S0 S M) (j : J nt M 1) (hv : M.hv = true) (h0 : (T M.k).kind ≠ 0) :
    Good S0 nt (ck (i64ok (S.nv - (1 : Int))) <| (getN S.opnd 41 (S.nv - (1 : Int))).bind fun x181 =>
      (if (0 : Int) ≤ x181 then
      (getN S.arena 24 x181).bind fun x185 =>
        (if x185.kind = (4 : Int) then
        some (s173 S (3 : Int) (T M.k).at_)
      else
        (s174 S).bind fun r190 =>
          (s175 r190 (⟨(2 : Int), (T M.k).n, (0 : Int), (0 : Int), (0 : Int)⟩ : MarkT)).bind fun r193 =>
          some ({ r193 with have_ := false }))
    else
      (s174 S).bind fun r197 =>
        (s175 r197 (⟨(2 : Int), (T M.k).n, (0 : Int), (0 : Int), (0 : Int)⟩ : MarkT)).bind fun r200 =>
        some ({ r200 with have_ := false }))) (opM T (T M.k) M) := by
  have hn := tk.le
  have js := j.sum
  have jk := j.k
  have jv := j.v
  obtain ⟨a, V, hV⟩ : ∃ a V, M.V = a :: V := by
    cases hh : M.V with
    | nil => exfalso; rw [hh] at jv; simp only [List.length_nil] at jv; omega
    | cons a V => exact ⟨a, V, rfl⟩
  have hvv := h.v
  rw [hV] at hvv js
  simp only [List.length_cons] at js
  have e2 : S.nv - 1 = (V.length : Int) := by rw [h.nv, hV]; simp
  rw [e2, ckF (by constructor <;> omega)]
  rw [bindT (getT (x := a) (by omega) (by omega) (by rw [Int.toNat_natCast]; exact stk_top hvv))]
  have ha := j.vv a (by rw [hV]; simp)
  have jar := j.ar
  have hop : opM T (T M.k) M = if isR M.ar a = true then failM M 3 (T M.k).at_ else { pushM (takeM T M) ⟨2, (T M.k).n, 0, 0, 0⟩ with hv := false } := by
    unfold opM; rw [hV]
  rw [hop]
  have push : Good S0 nt ((s174 S).bind fun r190 => (s175 r190 (⟨(2 : Int), (T M.k).n, (0 : Int), (0 : Int), (0 : Int)⟩ : MarkT)).bind fun r193 => some ({ r193 with have_ := false })) { pushM (takeM T M) ⟨2, (T M.k).n, 0, 0, 0⟩ with hv := false } := by
    have hk1 := tk.next M.k jk h0
    obtain ⟨S1, e1, h1⟩ := fr_take h (by omega) (tk.at_ _ jk)
    rw [bindT e1]
    unfold s175
    have hx : S1.ops[M.O.length]? = some (S1.ops.getD M.O.length dMark) := getD_get' (by rw [h1.ol]; omega)
    have hno : S1.no = (M.O.length : Int) := h1.no
    rw [hno, bindT (getT (x := S1.ops.getD M.O.length dMark) (by omega) (by omega) (by rw [Int.toNat_natCast]; exact hx)), ckF (by constructor <;> omega), Int.toNat_natCast]
    refine ⟨_, rfl, { h1 with ol := by rw [List.length_set]; exact h1.ol, o := stk_push h1.o (by rw [h1.ol]; show M.O.length < 41; omega), no := by simp [pushM, takeM], hv := rfl }, .inr ?_⟩
    refine ⟨jar, ?_, ?_, hk1, j.vv, ?_⟩
    · show M.V.length = bins (⟨2, (T M.k).n, 0, 0, 0⟩ :: M.O) + 0
      simp only [bins]
      rw [jv]
      simp
      omega
    · show ((⟨2, (T M.k).n, 0, 0, 0⟩ : MarkT) :: M.O).length + M.V.length ≤ M.k + 1
      rw [hV]
      simp only [List.length_cons]
      omega
    · intro x hx
      show 0 ≤ x.n ∧ x.n ≤ ((M.k + 1 : Nat) : Int) ∧ (x.kind ≠ 4 → x.n = 0)
      have hx : x ∈ (⟨2, (T M.k).n, 0, 0, 0⟩ : MarkT) :: M.O := hx
      rcases List.mem_cons.1 hx with rfl | hx
      · exact ⟨Int.le_refl _, (show (0 : Int) ≤ ((M.k + 1 : Nat) : Int) by omega), fun _ => rfl⟩
      · have := j.on x hx; omega
  by_cases h1 : 0 ≤ a
  · rw [if_pos h1]
    have hx : S.arena[a.toNat]? = some (M.ar.getD a.toNat dNode) := by
      rw [pre_get h.ar (by omega)]
      exact getD_get' (by omega)
    rw [bindT (getT (x := M.ar.getD a.toNat dNode) h1 (by omega) hx)]
    by_cases h2 : (M.ar.getD a.toNat dNode).kind = 4
    · rw [if_pos h2, if_pos (isR_iff.2 ⟨h1, ha, h2⟩)]
      exact Good.failed h (by decide)
    · rw [if_neg h2, if_neg (fun hh => h2 (isR_iff.1 hh).2.2)]
      exact push
  · rw [if_neg h1, if_neg (fun hh => h1 (isR_iff.1 hh).1)]
    exact push
theorem after_ok {S0 S : FoS} {M : Mc} {nt n : Nat} {T : Nat → TokT} (tk : Tk nt S0 T) (hf : 100 ≤ n) (h : FR S0 S M) (j : J nt M 1) (hv : M.hv = true) :
    Good S0 nt (s139 n S) (afterM T M) := by
  have hn := tk.le
  have jk := j.k
  obtain ⟨S1, e1, h1⟩ := fr_look (T := T) h (by omega) (tk.at_ _ jk)
  unfold s139 afterM
  rw [bindT e1]
  obtain ⟨lO, lV, lk, lh, ld, la, lp⟩ := lookM_O T M
  have j1 : J nt (lookM T M) 1 := j.look
  have key3 : ∀ (s : Int) (Sx : FoS) (Mx : Mc), (s ≠ 0 → (T M.k).kind ≠ 0) → FR S0 Sx Mx → J nt Mx 1 → Mx.hv = true → Mx.k = M.k → Good S0 nt (k139_4 n (S1, T M.k) s Sx) (after3 T (T M.k) s Mx) := by
    intro s Sx Mx hs hx jx hvx hkx
    unfold k139_4 after3
    by_cases h0 : s = 0
    · rw [if_pos h0, if_pos h0]
      have := close_ok (n := n) tk hf hx jx hvx
      rw [hkx] at this
      exact this.bindS
    · rw [if_neg h0, if_neg h0]
      have := op_ok (n := n) tk hf hx jx hvx (by rw [hkx]; exact hs h0)
      rw [hkx] at this
      exact this
  have key2 : ∀ (s : Int) (Sx : FoS) (Mx : Mc), (s ≠ 0 → (T M.k).kind ≠ 0) → FR S0 Sx Mx → J nt Mx 1 → Mx.hv = true → Mx.k = M.k → Good S0 nt (k139_5 n (S1, T M.k) s Sx) (after2 T (T M.k) s Mx) := by
    intro s Sx Mx hs hx jx hvx hkx
    have jxs := jx.sum
    have jxk := jx.k
    unfold k139_5 after2
    by_cases h2 : s < 2
    · rw [if_pos h2, bindT (fr_top hx (by omega))]
      by_cases h3 : strO Mx.O = 1
      · rw [if_pos h3, if_pos ⟨h2, h3⟩]
        obtain ⟨S', e5, f5, j5, e6, e7, e8, e9, e10⟩ := join_ok hx jx hn (by omega)
        rw [bindT e5]
        exact key3 0 _ _ (fun h => absurd rfl h) f5 j5 (by rw [e6]; exact hvx) (by rw [e7]; exact hkx)
      · rw [if_neg h3, if_neg (fun hh => h3 hh.2)]
        exact key3 s _ _ hs hx jx hvx hkx
    · rw [if_neg h2, if_neg (fun hh => h2 hh.1)]
      exact key3 s _ _ hs hx jx hvx hkx
  have key1 : ∀ (s : Int), (s ≠ 0 → (T M.k).kind ≠ 0) → Good S0 nt (k139_6 n (S1, T M.k) s) (after1 T (T M.k) s (lookM T M)) := by
    intro s hs
    have jxs := j1.sum
    have jxk := j1.k
    unfold k139_6 after1
    by_cases h2 : s < 3
    · rw [if_pos h2, bindT (fr_top h1 (by omega))]
      by_cases h3 : strO (lookM T M).O = 2
      · rw [if_pos h3, if_pos ⟨h2, h3⟩]
        obtain ⟨S', e5, f5, j5, e6, e7, e8, e9, e10⟩ := join_ok h1 j1 hn (by omega)
        rw [bindT e5]
        exact key2 s _ _ hs f5 j5 (by rw [e6, lh]; exact hv) (by rw [e7]; exact lk)
      · rw [if_neg h3, if_neg (fun hh => h3 hh.2)]
        exact key2 s _ _ hs h1 j1 (by rw [lh]; exact hv) lk
    · rw [if_neg h2, if_neg (fun hh => h2 hh.1)]
      exact key2 s _ _ hs h1 j1 (by rw [lh]; exact hv) lk
  unfold strT
  by_cases h6 : (T M.k).kind = 6
  · simp only [if_pos h6]
    exact key1 _ (fun _ => by omega)
  · simp only [if_neg h6]
    exact key1 0 (fun h => absurd rfl h)
/-- An atom is read to its end. -/
theorem wholeG {S0 S : FoS} {M : Mc} {nt n : Nat} (hn : nt ≤ 41) (hf : 100 ≤ n) (h : FR S0 S M) (j : J nt M 0) (hs : M.O.length + M.V.length + 1 ≤ M.k) (x : NodeT) : Good S0 nt ((s176 n S x).bind fun r => some r) (wholeM M x) := by
  obtain ⟨S', e5, f5, j5, e6, e7, e8, e9⟩ := whole_ok (n := n) h j hs hn hf x
  exact ⟨S', by rw [bindT e5], f5, .inr (by rw [if_pos e6]; exact j5)⟩
theorem pushG {S0 S : FoS} {M : Mc} {nt : Nat} (hn : nt ≤ 41) (h : FR S0 S M) (j : J nt M 0) (hv : M.hv = false) (hs : M.O.length + M.V.length + 1 ≤ M.k) (m : MarkT) (h0 : m.n = 0) (h2 : m.kind ≠ 2) : Good S0 nt ((s175 S m).bind fun r => some r) (pushM M m) := by
  have jk := j.k
  unfold s175
  have hx : S.ops[M.O.length]? = some (S.ops.getD M.O.length dMark) := getD_get' (by rw [h.ol]; omega)
  rw [h.no, bindT (getT (x := S.ops.getD M.O.length dMark) (by omega) (by omega) (by rw [Int.toNat_natCast]; exact hx)), ckF (by constructor <;> omega), Int.toNat_natCast]
  refine ⟨_, rfl, { h with ol := by rw [List.length_set]; exact h.ol, o := stk_push h.o (by rw [h.ol]; omega), no := by simp [pushM] }, .inr ?_⟩
  rw [show (pushM M m).hv = false from hv]
  refine ⟨j.ar, ?_, ?_, jk, j.vv, ?_⟩
  · show M.V.length = bins (m :: M.O) + 0
    simp only [bins]
    rw [if_neg h2, j.v]
    omega
  · show (m :: M.O).length + M.V.length ≤ M.k
    simp only [List.length_cons]
    omega
  · intro x hx
    show 0 ≤ x.n ∧ x.n ≤ (M.k : Int) ∧ (x.kind ≠ 4 → x.n = 0)
    have hx : x ∈ m :: M.O := hx
    rcases List.mem_cons.1 hx with rfl | hx
    · omega
    · exact j.on x hx
theorem atom_ok {S0 S : FoS} {M : Mc} {nt n : Nat} {T : Nat → TokT} (tk : Tk nt S0 T) (hf : 100 ≤ n) (h : FR S0 S M) (j : J nt M 0) (hv : M.hv = false) (hfl : ∀ k, k < nt → (T k).kind = 3 → (T k).n ≠ 0) :
    Good S0 nt (s140 n S) (atomM T M) := by
  have hn := tk.le
  have jk := j.k
  have js := j.sum
  obtain ⟨S1, e1, h1⟩ := fr_look (T := T) h (by omega) (tk.at_ _ jk)
  obtain ⟨lO, lV, lk, lh, ld, la, lp⟩ := lookM_O T M
  have j1 : J nt (lookM T M) 0 := j.look
  unfold s140 atomM
  rw [bindT e1]
  -- the token is taken
  have take : ∀ (Sx : FoS) (Mx : Mc), FR S0 Sx Mx → J nt Mx 0 → Mx.hv = false → (T Mx.k).kind ≠ 0 → ∃ S', s174 Sx = some S' ∧ FR S0 S' (takeM T Mx) ∧ J nt (takeM T Mx) 0 ∧ (takeM T Mx).hv = false ∧ (takeM T Mx).O.length + (takeM T Mx).V.length + 1 ≤ (takeM T Mx).k ∧ (takeM T Mx).k = Mx.k + 1 ∧ (takeM T Mx).O = Mx.O ∧ Mx.k + 1 < nt := by
    intro Sx Mx hx jx hvx h0
    have hk1 := tk.next Mx.k jx.k h0
    have jxs := jx.sum
    obtain ⟨S', e2, h2⟩ := fr_take (T := T) hx (by have := jx.k; omega) (tk.at_ _ jx.k)
    exact ⟨S', e2, h2, jx.take hk1, hvx, by show Mx.O.length + Mx.V.length + 1 ≤ Mx.k + 1; omega, rfl, rfl, hk1⟩
  have look : ∀ (Sx : FoS) (Mx : Mc), FR S0 Sx Mx → J nt Mx 0 → Mx.hv = false → Mx.O.length + Mx.V.length + 1 ≤ Mx.k → ∃ S', s168 Sx = some (S', T Mx.k) ∧ FR S0 S' (lookM T Mx) ∧ J nt (lookM T Mx) 0 ∧ (lookM T Mx).hv = false ∧ (lookM T Mx).O.length + (lookM T Mx).V.length + 1 ≤ (lookM T Mx).k ∧ (lookM T Mx).k = Mx.k ∧ (lookM T Mx).O = Mx.O := by
    intro Sx Mx hx jx hvx hsx
    obtain ⟨S', e2, h2⟩ := fr_look (T := T) hx (by have := jx.k; omega) (tk.at_ _ jx.k)
    obtain ⟨a, b, c, d, _, _, _⟩ := lookM_O T Mx
    exact ⟨S', e2, h2, jx.look, by rw [d]; exact hvx, by rw [a, b, c]; exact hsx, c, a⟩
  have hk : (T (lookM T M).k).kind = (T M.k).kind := by rw [lk]
  simp only
  by_cases c2 : (T M.k).kind = 2
  · rw [if_pos c2, if_pos c2]
    obtain ⟨S2, e2, h2, j2, v2, s2, k2, o2, n2⟩ := take S1 _ h1 j1 (by rw [lh]; exact hv) (by rw [hk]; omega)
    rw [bindT e2]
    exact wholeG hn hf h2 j2 s2 _
  rw [if_neg c2, if_neg c2]
  by_cases c4 : (T M.k).kind = 4
  · rw [if_pos c4, if_pos c4]
    -- a reference
    have main : ∀ rg : Bool, rg = rangesO (lookM T M).O → Good S0 nt (k177_0 n S1 (T M.k) rg) (refM T (T M.k) (lookM T M)) := by
      intro rg hrg
      unfold k177_0 refM
      obtain ⟨S2, e2, h2, j2, v2, s2, k2, o2, n2⟩ := take S1 _ h1 j1 (by rw [lh]; exact hv) (by rw [hk]; omega)
      rw [bindT e2]
      obtain ⟨S3, e3, h3, j3, v3, s3, k3, o3⟩ := look S2 _ h2 j2 v2 s2
      rw [bindT e3]
      have ek : (takeM T (lookM T M)).k = (lookM T M).k + 1 := rfl
      simp only [ek]
      by_cases c58 : (T ((lookM T M).k + 1)).kind = 58
      · rw [if_pos c58, if_pos c58]
        obtain ⟨S4, e4, h4, j4, v4, s4, k4, o4, n4⟩ := take S3 _ h3 j3 v3 (by rw [k3, ek, c58]; decide)
        rw [bindT e4]
        obtain ⟨S5, e5, h5, j5, v5, s5, k5, o5⟩ := look S4 _ h4 j4 v4 s4
        rw [bindT e5]
        have ek2 : (takeM T (lookM T (takeM T (lookM T M)))).k = (lookM T M).k + 2 := by rw [k4, k3, ek]
        simp only [ek2]
        by_cases cr : (T ((lookM T M).k + 2)).kind = 4
        · rw [if_pos cr, if_pos cr]
          obtain ⟨S6, e6, h6, j6, v6, s6, k6, o6, n6⟩ := take S5 _ h5 j5 v5 (by rw [k5, ek2, cr]; decide)
          rw [bindT e6, ← hrg]
          by_cases cg : rg = true
          · rw [if_pos cg, if_pos cg]
            exact wholeG hn hf h6 j6 s6 _
          · rw [if_neg cg, if_neg cg]
            exact Good.failed h6 (by decide)
        · rw [if_neg cr, if_neg cr]
          exact Good.failed h5 (by decide)
      · rw [if_neg c58, if_neg c58]
        exact wholeG hn hf h3 j3 s3 _
    refine Good.bindS ?_
    unfold s177
    have hno := h1.no
    cases hO : (lookM T M).O with
    | nil =>
      rw [if_neg (by rw [hno, hO]; simp)]
      exact main false (by rw [hO]; rfl)
    | cons m O =>
      have ho := h1.o
      rw [hO] at ho
      have j1s := j1.sum
      have j1k := j1.k
      rw [hO] at j1s
      simp only [List.length_cons] at j1s
      have e9 : S1.no - 1 = (O.length : Int) := by rw [hno, hO]; simp
      rw [if_pos (by rw [hno, hO]; simp only [List.length_cons]; omega), e9, ckF (by constructor <;> omega)]
      rw [bindT (getT (x := m) (by omega) (by omega) (by rw [Int.toNat_natCast]; exact stk_top ho))]
      have hr : rangesO (lookM T M).O = if m.kind = 4 then s209 m.op else false := by rw [hO]; rfl
      by_cases hm : m.kind = 4
      · rw [if_pos hm] at hr ⊢
        exact main _ hr.symm
      · rw [if_neg hm] at hr ⊢
        exact main _ hr.symm
  rw [if_neg c4, if_neg c4]
  by_cases c5 : (T M.k).kind = 5
  · rw [if_pos c5, if_pos c5]
    refine Good.bindS ?_
    unfold s178 callM
    obtain ⟨S2, e2, h2, j2, v2, s2, k2, o2, n2⟩ := take S1 _ h1 j1 (by rw [lh]; exact hv) (by rw [hk]; omega)
    rw [bindT e2]
    obtain ⟨S3, e3, h3, j3, v3, s3, k3, o3⟩ := look S2 _ h2 j2 v2 s2
    rw [bindT e3]
    have ek : (takeM T (lookM T M)).k = (lookM T M).k + 1 := rfl
    simp only [ek]
    by_cases c40 : (T ((lookM T M).k + 1)).kind = 40
    · rw [if_pos c40, if_pos c40]
      obtain ⟨S4, e4, h4, j4, v4, s4, k4, o4, n4⟩ := take S3 _ h3 j3 v3 (by rw [k3, ek, c40]; decide)
      rw [bindT e4]
      obtain ⟨S5, e5, h5, j5, v5, s5, k5, o5⟩ := look S4 _ h4 j4 v4 s4
      rw [bindT e5]
      have ek2 : (takeM T (lookM T (takeM T (lookM T M)))).k = (lookM T M).k + 2 := by rw [k4, k3, ek]
      simp only [ek2]
      by_cases c41 : (T ((lookM T M).k + 2)).kind = 41
      · rw [if_pos c41, if_pos c41]
        exact Good.failed h5 (by decide)
      · rw [if_neg c41, if_neg c41]
        exact pushG hn h5 j5 v5 s5 _ rfl (show (4 : Int) ≠ 2 by decide)
    · rw [if_neg c40, if_neg c40]
      exact Good.failed h3 (by decide)
  rw [if_neg c5, if_neg c5]
  by_cases c40 : (T M.k).kind = 40
  · rw [if_pos c40, if_pos c40]
    obtain ⟨S2, e2, h2, j2, v2, s2, k2, o2, n2⟩ := take S1 _ h1 j1 (by rw [lh]; exact hv) (by rw [hk]; omega)
    rw [bindT e2]
    exact pushG hn h2 j2 v2 s2 _ rfl (by decide)
  rw [if_neg c40, if_neg c40]
  by_cases c3 : (T M.k).kind = 3
  · rw [if_pos c3, if_pos c3]
    exact Good.failed h1 (hfl _ jk c3)
  rw [if_neg c3, if_neg c3]
  by_cases c6 : (T M.k).kind = 6
  · rw [if_pos c6, if_pos c6]
    by_cases c8 : (T M.k).n = 8
    · rw [if_pos c8, if_pos c8]
      obtain ⟨S2, e2, h2, j2, v2, s2, k2, o2, n2⟩ := take S1 _ h1 j1 (by rw [lh]; exact hv) (by rw [hk]; omega)
      rw [bindT e2]
      exact pushG hn h2 j2 v2 s2 _ rfl (by decide)
    · rw [if_neg c8, if_neg c8]
      exact Good.failed h1 (by decide)
  · rw [if_neg c6, if_neg c6]
    exact Good.failed h1 (by decide)
theorem step_ok {S0 S : FoS} {M : Mc} {nt n : Nat} {T : Nat → TokT} (tk : Tk nt S0 T) (hf : 100 ≤ n) (h : FR S0 S M) (j : J nt M (if M.hv = true then 1 else 0)) (hfl : ∀ k, k < nt → (T k).kind = 3 → (T k).n ≠ 0) :
    Good S0 nt (if S.have_ = true then s139 n S else s140 n S) (stepM T M) := by
  unfold stepM
  by_cases hv : M.hv = true
  · rw [if_pos (by rw [h.hv]; exact hv), if_pos hv]
    rw [if_pos hv] at j
    exact after_ok tk hf h j hv
  · rw [if_neg (by rw [h.hv]; exact hv), if_neg hv]
    rw [if_neg hv] at j
    exact atom_ok tk hf h j (by cases hh : M.hv; rfl; exact absurd hh hv) hfl
/-- What Parse answers at the machine's end. -/
def outM (M : Mc) : TreeV := if M.err = 0 then ⟨M.ar, (M.ar.length : Int) - 1, 0, 0⟩ else ⟨[], -1, M.err, M.bad⟩
theorem run_ok {S0 : FoS} {nt n : Nat} {T : Nat → TokT} (tk : Tk nt S0 T) (hf : 100 ≤ n) (hfl : ∀ k, k < nt → (T k).kind = 3 → (T k).n ≠ 0) : ∀ (g m : Nat) (M : Mc) (S : FoS), g < m → FR S0 S M → (M.err ≠ 0 ∨ J nt M (if M.hv = true then 1 else 0)) →
    ((runM T g M).err ≠ 0 ∨ (runM T g M).done = true) → (M.err = 0 → M.done = true → M.ar ≠ []) → ((runM T g M).err = 0 → (runM T g M).ar ≠ []) →
    ∃ S', l115_0 n m S = some ({ S' with nt := 0, nn := 0, nv := 0, no := 0 }, outM (runM T g M)) ∧ FR S0 S' (runM T g M) := by
  intro g
  induction g with
  | zero =>
    intro m M S hm h j hend hne hne2
    obtain ⟨m, rfl⟩ : ∃ m', m = m' + 1 := ⟨m - 1, by omega⟩
    show ∃ S', l115_0_st n (l115_0 n m) S = _ ∧ _
    unfold l115_0_st
    have hend : M.err ≠ 0 ∨ M.done = true := hend
    show ∃ S', _ = some (_, outM M) ∧ FR S0 S' M
    unfold outM
    by_cases he : M.err = 0
    · rw [if_pos (by rw [h.err]; exact he), if_pos he]
      have hd : M.done = true := by rcases hend with h | h; exact absurd he h; exact h
      have jar : M.ar.length ≤ 24 := by rcases j with h | h; exact absurd he h; exact h.ar
      rw [if_pos (by rw [h.done]; exact hd), h.nn, ckF (by omega), Int.toNat_natCast]
      have h0 : M.ar.length ≠ 0 := fun hh => hne he hd (List.eq_nil_of_length_eq_zero hh)
      have hc : s121 S.arena M.ar.length = some M.ar := by
        unfold s121
        rw [if_neg h0, ckF (by rw [h.arl]; omega), h.ar]
      rw [bindT hc, ckF (by constructor <;> omega)]
      exact ⟨S, rfl, h⟩
    · rw [if_neg (by rw [h.err]; exact he), if_neg he]
      exact ⟨S, by rw [h.err, h.bad], h⟩
  | succ g ih =>
    intro m M S hm h j hend hne hne2
    by_cases hr : M.err = 0 ∧ M.done = false
    · obtain ⟨m, rfl⟩ : ∃ m', m = m' + 1 := ⟨m - 1, by omega⟩
      have hrun : runM T (g + 1) M = runM T g (stepM T M) := by show (if _ then _ else _) = _; rw [if_pos hr]
      rw [hrun] at hend hne2 ⊢
      have j' : J nt M (if M.hv = true then 1 else 0) := by rcases j with h | h; exact absurd hr.1 h; exact h
      obtain ⟨S', e, h', j2⟩ := step_ok (n := n) tk hf h j' hfl
      show ∃ S', l115_0_st n (l115_0 n m) S = _ ∧ _
      unfold l115_0_st
      rw [if_pos (by rw [h.err]; exact hr.1), if_neg (by rw [h.done, hr.2]; decide)]
      have hnext : (stepM T M).err = 0 → (stepM T M).done = true → (stepM T M).ar ≠ [] := by
        intro a b
        have : runM T g (stepM T M) = stepM T M := by
          cases g with
          | zero => rfl
          | succ g => show (if _ then _ else _) = _; rw [if_neg (by rw [b]; simp)]
        rw [this] at hne2
        exact hne2 a
      have := ih m (stepM T M) S' (by omega) h' j2 hend hnext hne2
      by_cases hv : S.have_ = true
      · rw [if_pos hv] at e ⊢
        rw [bindT e]; exact this
      · rw [if_neg hv] at e ⊢
        rw [bindT e]; exact this
    · have hrun : runM T (g + 1) M = M := by show (if _ then _ else _) = _; rw [if_neg hr]
      have hrun2 : runM T g M = M := by
        cases g with
        | zero => rfl
        | succ g => show (if _ then _ else _) = _; rw [if_neg hr]
      rw [hrun] at hend hne2 ⊢
      have := ih m M S (by omega) h j (by rw [hrun2]; exact hend) hne (by rw [hrun2]; exact hne2)
      rw [hrun2] at this
      exact this
end Go.Proofs.Qxb6500272aGreat
