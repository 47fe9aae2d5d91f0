/-
  'wpx' is sound for 'Code.wp'.
-/
import Derived.Test.Qxb6500272aGreatCalc
namespace Go.Proofs.Qxb6500272aGreat
open Go
set_option linter.unusedSimpArgs false
set_option linter.unusedVariables false

theorem rd_cell (w : World) (b o : Nat) : rd w.heap b o = w.cell? ⟨b, o, none⟩ := by
  unfold rd World.cell?
  cases w.heap[b]? with
  | none => rfl
  | some x => cases x <;> rfl

theorem hset_heap (w : World) (b o : Nat) (v : Value) : (w.setCell ⟨b, o, none⟩ v).heap = hset w.heap b o v := by
  unfold World.setCell hset
  congr 1

theorem ev_eq (S : St) (df : List Deferred) (x : Operand) : (⟨⟨S.R⟩, df⟩ : Act).eval x = ev S x := by
  cases x <;> simp [Act.eval, ev, Array.getD, List.getD]
  rename_i t
  by_cases h : t < S.R.length
  · simp [h]
  · simp [h, List.getElem?_eq_none (Nat.le_of_not_lt h)]

def putR (R : List Value) (d : Option Nat) (v : Value) : List Value :=
  match d with
  | none => R
  | some d => R.set d v

theorem put_R (S : St) (d : Option Nat) (v : Value) (kb : Option Bool) : (S.put d v kb).R = putR S.R d v := by
  cases d <;> rfl

theorem act_put (R : List Value) (df : List Deferred) (d : Option Nat) (v : Value) : (⟨⟨R⟩, df⟩ : Act).put d v = ⟨⟨putR R d v⟩, df⟩ := by
  cases d <;> simp [Act.put, putR]

/-- What is noted of a bool is so. -/
def Con (S : St) : Prop := ∀ t b q, S.B.lookup t = some b → S.R.getD t undef = .bool q → q = b

theorem kbo_ev {S : St} (h : Con S) {x : Operand} {b q : Bool} (hk : kbo S x = some b) (hv : ev S x = .bool q) : q = b := by
  cases x with
  | tmp t => exact h t b q hk hv
  | const v =>
    cases v <;> simp [kbo] at hk
    simp [ev] at hv
    exact hv ▸ hk
  | global g => simp [ev] at hv
  | func f => simp [ev] at hv

theorem lookup_filter_ne (B : List (Nat × Bool)) (d t : Nat) (h : t ≠ d) : (B.filter fun p => p.1 != d).lookup t = B.lookup t := by
  induction B with
  | nil => rfl
  | cons p B ih =>
    obtain ⟨x, c⟩ := p
    by_cases hx : x = d
    · subst hx
      have : (t == x) = false := by simpa using h
      simp [List.lookup_cons, this, ih]
    · by_cases ht : t = x
      · subst ht; simp [List.filter_cons, hx]
      · have : (t == x) = false := by simpa using ht
        simp [List.filter_cons, hx, List.lookup_cons, this, ih]
theorem lookup_filter_self (B : List (Nat × Bool)) (d : Nat) : (B.filter fun p => p.1 != d).lookup d = none := by
  induction B with
  | nil => rfl
  | cons p B ih =>
    obtain ⟨x, c⟩ := p
    by_cases hx : x = d
    · subst hx; simp [ih]
    · have : (d == x) = false := by simp; exact fun e => hx e.symm
      simp [List.filter_cons, hx, List.lookup_cons, this, ih]
theorem getD_set_ne (R : List Value) (d t : Nat) (v : Value) (h : t ≠ d) : (R.set d v).getD t undef = R.getD t undef := by
  simp [List.getD, List.getElem?_set_ne (Ne.symm h)]

theorem con_put {S : St} (h : Con S) (d : Option Nat) (v : Value) (kb : Option Bool) (hk : ∀ b q, kb = some b → v = .bool q → q = b) : Con (S.put d v kb) := by
  cases d with
  | none => exact h
  | some d =>
    intro t b q hl hv
    by_cases ht : t = d
    · subst ht
      cases kb with
      | none => simp [St.put, lookup_filter_self] at hl
      | some c =>
        simp [St.put] at hl
        subst hl
        simp only [St.put] at hv
        by_cases hlt : t < S.R.length
        · rw [List.getD, List.getElem?_set_self hlt] at hv
          exact hk c q rfl hv
        · simp [List.getD, List.getElem?_eq_none (Nat.le_of_not_lt (by simpa using hlt : ¬ t < (S.R.set t v).length)), undef] at hv
    · have hb : (t == d) = false := by simpa using ht
      refine h t b q ?_ ?_
      · cases kb <;> simpa [St.put, List.lookup_cons, hb, lookup_filter_ne _ _ _ ht] using hl
      · simp only [St.put] at hv; rwa [getD_set_ne _ _ _ _ ht] at hv
theorem con_put_none {S : St} (h : Con S) (d : Option Nat) (v : Value) : Con (S.put d v none) := con_put h d v none (fun _ _ h => by cases h)
theorem con_know {S : St} (h : Con S) {t : Nat} {c : Bool} (hv : S.R.getD t undef = .bool c) : Con (S.know t c) := by
  intro s b q hl hq
  by_cases hs : s = t
  · subst hs
    simp [St.know] at hl
    subst hl
    simp only [St.know] at hq
    rw [hv] at hq
    exact (Value.bool.inj hq).symm
  · have hb : (s == t) = false := by simpa using hs
    simp only [St.know, List.lookup_cons, hb] at hl
    exact h s b q hl hq
theorem con_keep {S : St} (h : Con S) (mods : List Nat) {R : List Value} (hR : ∀ s, s ∉ mods → R.getD s undef = S.R.getD s undef) : Con ⟨R, keepB mods S.B⟩ := by
  intro t b q hl hq
  by_cases ht : t ∈ mods
  · exfalso
    have : (keepB mods S.B).lookup t = none := by
      unfold keepB
      generalize S.B = B
      induction B with
      | nil => rfl
      | cons p B ih =>
        obtain ⟨x, c⟩ := p
        by_cases hx : x ∈ mods
        · simpa [List.filter_cons, hx] using ih
        · have : (t == x) = false := by simp; intro e; subst e; exact hx ht
          simpa [List.filter_cons, hx, List.lookup_cons, this] using ih
    rw [this] at hl; cases hl
  · refine h t b q ?_ (hR t ht ▸ hq)
    have : (keepB mods S.B).lookup t = S.B.lookup t := by
      unfold keepB
      generalize S.B = B
      induction B with
      | nil => rfl
      | cons p B ih =>
        obtain ⟨x, c⟩ := p
        by_cases hx : x ∈ mods
        · have h1 : (t == x) = false := by simp; intro e; subst e; exact ht hx
          simpa [List.filter_cons, hx, List.lookup_cons, h1] using ih
        · by_cases htx : t = x
          · subst htx; simp [List.filter_cons, hx]
          · have h1 : (t == x) = false := by simpa using htx
            simpa [List.filter_cons, hx, List.lookup_cons, h1] using ih
    rw [← this]; exact hl

theorem sval_run {α : Type} (P : Program) : ∀ (s : Sem α) (a : α) (w : World), sval P s = some a → s.run P w = .ok a w
  | .pure a, _, _, h => by simp [sval] at h; subst h; rfl
  | .program k, a, w, h => by
    simp only [sval] at h
    simp only [Sem.run]
    exact sval_run P (k P) a w h

/-! ### The operations that read -/
theorem info_of {P : Program} {t : Nat} (h : knownB P t = true) : ∃ i, P.info? t = some i ∧ szOf P t = i.size ∧ ∃ d, P.underlying t = some d := by
  simp only [knownB, Bool.and_eq_true, Option.isSome_iff_exists] at h
  obtain ⟨⟨d, hd⟩, i, hi⟩ := h
  exact ⟨i, hi, by simp [szOf, hi], d, hd⟩
theorem run_sizeOf' {P : Program} {t : Nat} (h : knownB P t = true) (w : World) : (sizeOf t).run P w = .ok (szOf P t) w := by
  obtain ⟨i, hi, hs, _⟩ := info_of h
  simp [sizeOf, typeInfo, hi, hs]
theorem run_isAgg' {P : Program} {t : Nat} (h : knownB P t = true) (w : World) : (isAgg t).run P w = .ok (aggB P t) w := by
  obtain ⟨i, hi, hs, d, hd⟩ := info_of h
  simp [isAgg, run_underlying hd, aggB, hd]
  cases d <;> rfl

theorem add_none (b o n : Nat) : (⟨b, o, none⟩ : Addr).add n = ⟨b, o + n, none⟩ := by
  unfold Addr.add
  split <;> simp_all

/-- The heap has grown: what was there is as it was. -/
def HExt (H H' : Heap) : Prop := ∀ (b : Nat) (x : Obj), H[b]? = some x → H'[b]? = some x
theorem HExt.refl (H : Heap) : HExt H H := fun _ _ h => h
theorem HExt.trans {A B C : Heap} (h : HExt A B) (k : HExt B C) : HExt A C := fun b x hx => k b x (h b x hx)
theorem HExt.push (H : Heap) (x : Obj) : HExt H (H.push x) := fun b y hy => by
  have hb : b < H.size := (Array.getElem?_eq_some_iff.1 hy).1
  rw [Array.getElem?_push, if_neg (by omega)]
  exact hy
theorem HExt.rd {H H' : Heap} (h : HExt H H') {b o : Nat} {v : Value} (hv : rd H b o = some v) : rd H' b o = some v := by
  unfold Go.Proofs.Qxb6500272aGreat.rd at hv ⊢
  cases hx : H[b]? with
  | none => rw [hx] at hv; cases hv
  | some x => rw [hx] at hv; rw [h b x hx]; exact hv
theorem HExt.row {H H' : Heap} (h : HExt H H') {b o : Nat} {l : List Value} (hr : RowAt H b o l) : RowAt H' b o l := fun j hj => by
  have := hr j hj
  rw [List.getElem?_eq_getElem hj] at this ⊢
  exact h.rd this

theorem run_loadx {P : Program} {t b o : Nat} {H : Heap} {K : Value → Prop} (ht : tyB P t = true) (h : loadx t H b o K) :
    ∃ v, (∀ w : World, HExt H w.heap → (loadVar t ⟨b, o, none⟩).run P w = .ok v w) ∧ K v := by
  simp only [tyB, Bool.and_eq_true] at ht
  obtain ⟨hk, ht⟩ := ht
  by_cases h0 : tag t = 0
  · have ha : aggB P t = true ∧ szOf P t = lenS t := by simpa [h0] using ht
    have key : ∀ l : List Value, l.length = lenS t → RowAt H b o l → ∀ w : World, HExt H w.heap → (loadVar t ⟨b, o, none⟩).run P w = .ok (.agg ⟨l⟩) w := by
      intro l hl hr w hw
      have hr := hw.row hr
      simp only [loadVar, Sem.run_bind, run_isAgg' hk, ha.1, Result.andThen_ok, run_sizeOf' hk, ha.2, if_true]
      rw [show lenS t = l.length from hl.symm]
      rw [run_loadCells_list w ⟨b, o, none⟩ l (fun j v hv => by
        have hj : j < l.length := (List.getElem?_eq_some_iff.1 hv).1
        rw [add_none, ← rd_cell, hr j hj, hv])]
      simp
    simp only [loadx, h0] at h
    have hs : ∃ l : List Value, l.length = lenS t ∧ RowAt H b o l ∧ K (.agg ⟨l⟩) := by
      unfold structOf at h
      split at h <;> first | (obtain ⟨x, h1, h2⟩ := h; exact ⟨_, rfl, h1, h2⟩) | exact h.elim
    obtain ⟨l, h1, h2, h3⟩ := hs
    exact ⟨_, key l h1 h2, h3⟩
  · have hna : aggB P t = false := by
      revert ht
      generalize tag t = g at *
      match g with
      | 0 => exact absurd rfl h0
      | 9 => simp
      | 1 | 2 | 3 | 4 | 5 | 6 | 7 | 8 | n + 10 => simp
    have key : ∀ v : Value, rd H b o = some v → ∀ w : World, HExt H w.heap → (loadVar t ⟨b, o, none⟩).run P w = .ok v w := by
      intro v hv w hw
      have hv := hw.rd hv
      rw [rd_cell] at hv
      simp [loadVar, run_isAgg' hk, hna, hv]
    have hs : ∃ v, rd H b o = some v ∧ K v := by
      unfold loadx at h
      generalize tag t = g at *
      split at h
      · exact absurd rfl h0
      · unfold plainOf at h
        split at h <;> first | (obtain ⟨x, h1, h2⟩ := h; exact ⟨_, h1, h2⟩) | (obtain ⟨x, y, h1, h2⟩ := h; exact ⟨_, h1, h2⟩) | (obtain ⟨x, y, z, h1, h2⟩ := h; exact ⟨_, h1, h2⟩) | exact h.elim
    obtain ⟨v, h1, h2⟩ := hs
    exact ⟨v, key v h1, h2⟩

theorem wrap_ok {n : Int} (h : i64ok n) : IntKind.wrap .i64 n = n := by
  obtain ⟨h1, h2⟩ := h
  simp only [IntKind.wrap, IntKind.bits, IntKind.signed]
  simp
  omega
theorem wrap_u8 {n : Int} (h : 0 ≤ n ∧ n ≤ 255) : IntKind.wrap .u8 n = n := by
  obtain ⟨h1, h2⟩ := h
  simp [IntKind.wrap, IntKind.bits, IntKind.signed]
  omega
theorem wrap_u64 {n : Int} (h : 0 ≤ n ∧ n ≤ 18446744073709551615) : IntKind.wrap .u64 n = n := by
  obtain ⟨h1, h2⟩ := h
  simp [IntKind.wrap, IntKind.bits, IntKind.signed]
  omega
theorem wrap_kok {k : IntKind} {n : Int} (h : kok k n) : IntKind.wrap k n = n := by
  cases k <;> simp only [kok] at h <;> first | exact h.elim | exact wrap_ok h | exact wrap_u8 h | exact wrap_u64 h
theorem wrap_u32 (a : BitVec 32) : IntKind.wrap .u32 (a.toNat : Int) = a.toNat := by
  have := a.isLt
  simp [IntKind.wrap, IntKind.bits, IntKind.signed]
  omega
theorem ofInt_u32 (a : BitVec 32) : BitVec.ofInt (IntKind.bits .u32) (a.toNat : Int) = a := by
  simp [IntKind.bits]

/-- '==' on the two struct types of the program. -/
def EqOK (P : Program) : Prop := (∀ (a b : Bool) (w : World), (Op.equal 4 (.bool a) (.bool b)).run P w = .ok (a == b) w) ∧ ∀ (t : Nat) (a b : List Value) (w : World), shapeOK t a = true → shapeOK t b = true →
  (Op.equal t (.agg ⟨a⟩) (.agg ⟨b⟩)).run P w = .ok (eqCells a b) w ∧ ∀ op x y, (eqGuard op t x y (.agg ⟨a⟩) (.agg ⟨b⟩)).run P w = .ok () w

theorem bytes_toList (l : List UInt8) : (⟨⟨l⟩⟩ : ByteArray).toList = l := by
  simp [ByteArray.toList_eq] 

theorem append_str (a b : List UInt8) : (⟨⟨a⟩⟩ : ByteArray) ++ ⟨⟨b⟩⟩ = ⟨⟨a ++ b⟩⟩ := by
  apply ByteArray.ext
  rw [ByteArray.data_append]
  simp

theorem wrap_shl (a : BitVec 32) (n : Nat) : IntKind.wrap .u32 ((a.toNat : Int) * 2 ^ min n 32) = ((a <<< n).toNat : Int) := by
  have key : ((a.toNat : Int) * 2 ^ min n 32) = ((a.toNat * 2 ^ min n 32 : Nat) : Int) := by simp
  rw [key]
  simp only [IntKind.wrap, IntKind.bits, IntKind.signed]
  simp only [BitVec.toNat_shiftLeft, Nat.shiftLeft_eq]
  by_cases h : n ≤ 32
  · rw [Nat.min_eq_left h]; simp
  · rw [Nat.min_eq_right (by omega)]
    have h2 : 2 ^ n = 2 ^ 32 * 2 ^ (n - 32) := by rw [← Nat.pow_add]; congr 1; omega
    rw [h2]
    have h3 : a.toNat * (2 ^ 32 * 2 ^ (n - 32)) % 2 ^ 32 = 0 := by
      rw [show a.toNat * (2 ^ 32 * 2 ^ (n - 32)) = 2 ^ 32 * (a.toNat * 2 ^ (n - 32)) by rw [Nat.mul_left_comm]]
      exact Nat.mul_mod_right _ _
    rw [h3]; simp
theorem fdiv_shr (a : BitVec 32) (n : Nat) : Int.fdiv (a.toNat : Int) (2 ^ min n 32) = ((a >>> n).toNat : Int) := by
  have key : ((2 : Int) ^ min n 32) = ((2 ^ min n 32 : Nat) : Int) := by simp
  rw [key, Int.fdiv_eq_ediv_of_nonneg _ (Int.natCast_nonneg _)]
  simp only [BitVec.toNat_ushiftRight, Nat.shiftRight_eq_div_pow]
  have ha := a.isLt
  by_cases h : n ≤ 32
  · rw [Nat.min_eq_left h]; simp
  · rw [Nat.min_eq_right (by omega)]
    have h1 : a.toNat / 2 ^ 32 = 0 := Nat.div_eq_of_lt ha
    have h2 : a.toNat / 2 ^ n = 0 := Nat.div_eq_of_lt (Nat.lt_of_lt_of_le ha (Nat.pow_le_pow_right (by omega) (by omega)))
    rw [h2]; omega

theorem binx_run {P : Program} (hE : EqOK P) {op : BinOp} {t : Nat} {x y : Value} {K : Value → Prop} {xo yo : Operand} (h : binx op t x y K) :
    ∃ v, (∀ w, (do eqGuard op t xo yo x y; binOp op t x y : Sem Value).run P w = .ok v w) ∧ K v := by
  unfold binx at h
  split at h
  case h_1 =>
    obtain ⟨r, h1, h2⟩ := h
    rcases h1 with ⟨h1, rfl⟩ | rfl
    · exact ⟨_, fun w => by simp [eqGuard, binOp, Op.intArith, wrap_ok h1], h2⟩
    · exact ⟨_, fun w => by simp [eqGuard, binOp, Op.intArith], h2⟩
  case h_2 => obtain ⟨h1, h2⟩ := h; exact ⟨_, fun w => by simp [eqGuard, binOp, Op.intArith, wrap_ok h1], h2⟩
  case h_3 => obtain ⟨h1, h2⟩ := h; exact ⟨_, fun w => by simp [eqGuard, binOp, Op.intArith, wrap_ok h1], h2⟩
  case h_4 => obtain ⟨h0, h1, h2⟩ := h; exact ⟨_, fun w => by simp [eqGuard, binOp, Op.intDiv, wrap_ok h1, h0], h2⟩
  case h_5 => obtain ⟨h0, h2⟩ := h; exact ⟨_, fun w => by simp [eqGuard, binOp, Op.intDiv, h0], h2⟩
  case h_6 => exact ⟨_, fun w => by simp [eqGuard, binOp, Op.intCmp]; rfl, h⟩
  case h_7 => exact ⟨_, fun w => by simp [eqGuard, binOp, Op.intCmp]; rfl, h⟩
  case h_8 => exact ⟨_, fun w => by simp [eqGuard, binOp, Op.intCmp], h⟩
  case h_9 => exact ⟨_, fun w => by simp [eqGuard, binOp, Op.intCmp], h⟩
  case h_10 => exact ⟨_, fun w => by simp [eqGuard, binOp, Op.intCmp], h⟩
  case h_11 => exact ⟨_, fun w => by simp [eqGuard, binOp, Op.intCmp], h⟩
  case h_12 => obtain ⟨h1, h2⟩ := h; exact ⟨_, fun w => by simp [eqGuard, binOp, Op.intArith, wrap_u8 h1], h2⟩
  case h_13 => exact ⟨_, fun w => by simp [eqGuard, binOp, Op.intCmp]; rfl, h⟩
  case h_14 => exact ⟨_, fun w => by simp [eqGuard, binOp, Op.intCmp]; rfl, h⟩
  case h_15 => exact ⟨_, fun w => by simp [eqGuard, binOp, Op.intCmp], h⟩
  case h_16 => exact ⟨_, fun w => by simp [eqGuard, binOp, Op.intCmp], h⟩
  case h_17 => exact ⟨_, fun w => by simp [eqGuard, binOp, Op.intCmp], h⟩
  case h_18 => exact ⟨_, fun w => by simp [eqGuard, binOp, Op.intCmp], h⟩
  case h_19 => exact ⟨_, fun w => by simp [eqGuard, binOp, Op.intCmp]; rfl, h⟩
  case h_20 => exact ⟨_, fun w => by simp [eqGuard, binOp, Op.intCmp]; rfl, h⟩
  case h_21 =>
    obtain ⟨a, b, rfl, rfl, h2⟩ := h
    have e : binOp .and t (.int .u32 a.toNat) (.int .u32 b.toNat) = pure (.int .u32 (a &&& b).toNat) := by
      show Op.intBits .and .u32 _ _ = _
      simp only [Op.intBits, ofInt_u32]
      exact congrArg (fun n => (pure (Value.int .u32 n) : Sem Value)) (wrap_u32 (a &&& b))
    exact ⟨_, fun w => by rw [e]; simp [eqGuard], h2⟩
  case h_22 =>
    obtain ⟨a, b, rfl, rfl, h2⟩ := h
    have e : binOp .or t (.int .u32 a.toNat) (.int .u32 b.toNat) = pure (.int .u32 (a ||| b).toNat) := by
      show Op.intBits .or .u32 _ _ = _
      simp only [Op.intBits, ofInt_u32]
      exact congrArg (fun n => (pure (Value.int .u32 n) : Sem Value)) (wrap_u32 (a ||| b))
    exact ⟨_, fun w => by rw [e]; simp [eqGuard], h2⟩
  case h_23 =>
    obtain ⟨a, b, rfl, rfl, h2⟩ := h
    have e : binOp .andNot t (.int .u32 a.toNat) (.int .u32 b.toNat) = pure (.int .u32 (a &&& ~~~b).toNat) := by
      show Op.intBits .andNot .u32 _ _ = _
      simp only [Op.intBits, ofInt_u32]
      exact congrArg (fun n => (pure (Value.int .u32 n) : Sem Value)) (wrap_u32 (a &&& ~~~b))
    exact ⟨_, fun w => by rw [e]; simp [eqGuard], h2⟩
  case h_24 =>
    obtain ⟨a, b, rfl, rfl, h2⟩ := h
    refine ⟨_, fun w => ?_, h2⟩
    have ha := a.isLt
    have hb := b.isLt
    simp [eqGuard, binOp, Op.intArith, IntKind.wrap, IntKind.bits, IntKind.signed, BitVec.toNat_sub]
    omega
  case h_25 =>
    obtain ⟨a, rfl, h1, h2⟩ := h
    refine ⟨_, fun w => ?_, h2⟩
    simp [eqGuard, binOp, Op.shift, Int.not_lt.2 h1, IntKind.bits]
    exact wrap_shl a _
  case h_26 =>
    obtain ⟨a, rfl, h1, h2⟩ := h
    refine ⟨_, fun w => ?_, h2⟩
    simp [eqGuard, binOp, Op.shift, Int.not_lt.2 h1, IntKind.bits]
    exact fdiv_shr a _
  case h_27 =>
    cases ht : t == 4 with
    | false => rw [ht] at h; exact h.elim
    | true =>
      rw [ht] at h
      have ht' : t = 4 := by simpa using ht
      subst ht'
      rename_i a b
      have e : binOp .eql 4 (.bool a) (.bool b) = (do let r ← Op.equal 4 (.bool a) (.bool b); pure (.bool r)) := rfl
      exact ⟨_, fun w => by rw [e]; simp [eqGuard, hE.1], h⟩
  case h_28 =>
    obtain ⟨h1, h2⟩ := h
    refine ⟨_, fun w => ?_, h2⟩
    simp [eqGuard, binOp, Op.stringOp, ByteArray.size, IntKind.max, IntKind.signed, IntKind.bits]
    rw [if_neg (by omega), append_str]
  case h_29 => exact ⟨_, fun w => by simp [eqGuard, binOp, Op.stringOp, bytes_toList], h⟩
  case h_30 => exact ⟨_, fun w => by simp [eqGuard, binOp, Op.stringOp, bytes_toList], h⟩
  case h_31 => exact ⟨_, fun w => by simp [eqGuard, binOp, Op.stringOp, bytes_toList], h⟩
  case h_32 => exact ⟨_, fun w => by simp [eqGuard, binOp, Op.stringOp, bytes_toList], h⟩
  case h_33 =>
    rename_i a b
    cases hs : shapeOK t a && shapeOK t b with
    | false => rw [hs] at h; exact h.elim
    | true =>
      rw [hs] at h
      simp only [Bool.and_eq_true] at hs
      have e : binOp .eql t (.agg ⟨a⟩) (.agg ⟨b⟩) = (do let r ← Op.equal t (.agg ⟨a⟩) (.agg ⟨b⟩); pure (.bool r)) := rfl
      exact ⟨_, fun w => by rw [e]; simp [(hE.2 t a b w hs.1 hs.2).1, (hE.2 t a b w hs.1 hs.2).2], h⟩
  case h_34 =>
    rename_i a b
    cases hs : shapeOK t a && shapeOK t b with
    | false => rw [hs] at h; exact h.elim
    | true =>
      rw [hs] at h
      simp only [Bool.and_eq_true] at hs
      have e : binOp .neq t (.agg ⟨a⟩) (.agg ⟨b⟩) = (do let r ← Op.equal t (.agg ⟨a⟩) (.agg ⟨b⟩); pure (.bool (!r))) := rfl
      exact ⟨_, fun w => by rw [e]; simp [(hE.2 t a b w hs.1 hs.2).1, (hE.2 t a b w hs.1 hs.2).2], h⟩
  case h_35 => exact h.elim

theorem run_sliceBound {P : Program} {k : IntKind} {n : Int} {y : Nat} {c : BoundsCode} (w : World) (h0 : 0 ≤ n) (h1 : n ≤ y) : (Instr.sliceBound (.int k n) y c).run P w = .ok n.toNat w := by
  simp [Instr.sliceBound, asIntOf, h0, h1]

theorem size_str (l : List UInt8) : (⟨⟨l⟩⟩ : ByteArray).size = l.length := rfl
theorem extract_str (l : List UInt8) (i j : Nat) : (⟨⟨l⟩⟩ : ByteArray).extract i j = ⟨⟨(l.take j).drop i⟩⟩ := by
  apply ByteArray.ext
  rw [ByteArray.data_extract]
  simp [List.extract_eq_take_drop, List.drop_take]

theorem slicex_run {P : Program} {t : Nat} {x : Value} {lo hi : Option Value} {K : Value → Prop}
    (hsz : ∀ e, P.underlying t = some (.slice e) ∨ (∃ n, P.underlying t = some (.array n e)) → knownB P e = true)
    (h : slicex P t x lo hi K) : ∃ v, (∀ w, (Instr.sliceAt t x lo hi none).run P w = .ok v w) ∧ K v := by
  unfold slicex at h
  split at h
  case h_1 l k m hu =>
    obtain ⟨h0, h1, h2⟩ := h
    refine ⟨_, fun w => ?_, h2⟩
    simp only [Instr.sliceAt, Sem.run_bind, run_underlying hu, Result.andThen_ok, Instr.slice]
    simp [Instr.sliceBounds, size_str, run_sliceBound, h0, h1, extract_str]
  case h_2 l k n hu =>
    obtain ⟨h0, h1, h2⟩ := h
    refine ⟨_, fun w => ?_, h2⟩
    simp only [Instr.sliceAt, Sem.run_bind, run_underlying hu, Result.andThen_ok, Instr.slice]
    simp [Instr.sliceBounds, size_str, run_sliceBound, h0, h1, extract_str]
  case h_3 l k m k' n hu =>
    obtain ⟨h0, h1, h2, h3⟩ := h
    refine ⟨_, fun w => ?_, h3⟩
    have h4 : m ≤ (n.toNat : Int) := by omega
    simp only [Instr.sliceAt, Sem.run_bind, run_underlying hu, Result.andThen_ok, Instr.slice]
    have h5 : 0 ≤ n := by omega
    simp [Instr.sliceBounds, size_str, run_sliceBound, h5, h2, extract_str]
    rw [run_sliceBound w h0 h4]; simp
  case h_4 e a l c k n hu =>
    obtain ⟨h0, h1, h2⟩ := h
    refine ⟨_, fun w => ?_, h2⟩
    have hk := hsz e (.inl hu)
    simp only [Instr.sliceAt, Sem.run_bind, run_underlying hu, Result.andThen_ok, Instr.slice]
    simp [Instr.sliceBounds, run_sliceBound, h0, h1, run_sizeOf' hk]
    intro _
    cases a with
    | none => rfl
    | some a => simp [Addr.add]
  case h_5 e a l c k m hu =>
    obtain ⟨b, o, rfl, h0, h1, h2, h3⟩ := h
    refine ⟨_, fun w => ?_, h3⟩
    have hk := hsz e (.inl hu)
    have h4 : ¬ c = m.toNat := by omega
    simp only [Instr.sliceAt, Sem.run_bind, run_underlying hu, Result.andThen_ok, Instr.slice]
    simp [Instr.sliceBounds, run_sliceBound, h0, h1, run_sizeOf' hk, h4, add_none]
  case h_6 n e b o k m hu =>
    obtain ⟨h0, h1, h2⟩ := h
    refine ⟨_, fun w => ?_, h2⟩
    have hk := hsz e (.inr ⟨n, hu⟩)
    have h4 : ¬ n = m.toNat := by omega
    have h5 : m ≤ (n : Int) := by omega
    simp only [Instr.sliceAt, Sem.run_bind, run_underlying hu, Result.andThen_ok, Instr.sureAddr]
    simp [Instr.sliceBounds, run_sliceBound, h0, h5, run_sizeOf' hk, h4, add_none]
  case h_7 => exact h.elim

theorem run_indexAt {P : Program} {t e : Nat} {b p l c : Nat} {k : IntKind} {n : Int} (w : World) (hu : P.underlying t = some (.slice e)) (h0 : 0 ≤ n) (h1 : n < l) (hk : knownB P e = true) :
    (Instr.indexAt t (.slice (some ⟨b, p, none⟩) l c) (.int k n)).run P w = .ok (.pointer (some ⟨b, p + n.toNat * szOf P e, none⟩)) w := by
  simp only [Instr.indexAt, asIntOf, Sem.run_bind, Sem.run_pure, Result.andThen_ok, run_underlying hu]
  simp [run_underlying hu, h0, h1, run_sizeOf' hk, add_none]
theorem run_indexAt_arr {P : Program} {t e m : Nat} {b p : Nat} {k : IntKind} {n : Int} (w : World) (hu : P.underlying t = some (.array m e)) (h0 : 0 ≤ n) (h1 : n < m) (hk : knownB P e = true) :
    (Instr.indexAt t (.pointer (some ⟨b, p, none⟩)) (.int k n)).run P w = .ok (.pointer (some ⟨b, p + n.toNat * szOf P e, none⟩)) w := by
  simp only [Instr.indexAt, asIntOf, Sem.run_bind, Sem.run_pure, Result.andThen_ok, run_underlying hu, Instr.sureAddr]
  simp [run_underlying hu, h0, h1, run_sizeOf' hk, add_none]
theorem run_index_str {P : Program} {t : Nat} {l : List UInt8} {k : IntKind} {n : Int} (w : World) (hu : P.underlying t = some .string) (h0 : 0 ≤ n) (h1 : n < l.length) :
    (Instr.index t (.string ⟨⟨l⟩⟩) (.int k n)).run P w = .ok (.int .u8 (l.getD n.toNat 0).toNat) w := by
  have h2 : n.toNat < l.length := by omega
  have h3 : (⟨⟨l⟩⟩ : ByteArray)[n.toNat]? = some (l.getD n.toNat 0) := by
    rw [getElem?_pos (⟨⟨l⟩⟩ : ByteArray) n.toNat (by simpa [size_str] using h2)]
    simp [List.getD, List.getElem?_eq_getElem h2]
    rfl
  simp only [Instr.index, asIntOf, Sem.run_bind, Sem.run_pure, Result.andThen_ok, run_underlying hu, h0, if_true, h3]
theorem run_row {P : Program} {b p : Nat} {l : List Value} (w : World) (hr : RowAt w.heap b p l) : (loadCells ⟨b, p, none⟩ l.length).run P w = .ok ⟨l⟩ w := by
  rw [run_loadCells_list w ⟨b, p, none⟩ l (fun j v hv => by
    have hj : j < l.length := (List.getElem?_eq_some_iff.1 hv).1
    rw [add_none, ← rd_cell, hr j hj, hv])]
theorem fold_push (s : List UInt8) : ∀ acc : List UInt8, (s.map fun c => (c.toNat : Int)).foldl (fun r n => r.push (UInt8.ofNat n.toNat)) (⟨⟨acc⟩⟩ : ByteArray) = ⟨⟨acc ++ s⟩⟩ := by
  induction s with
  | nil => intro acc; simp
  | cons c s ih =>
    intro acc
    simp only [List.map_cons, List.foldl_cons]
    have : (⟨⟨acc⟩⟩ : ByteArray).push (UInt8.ofNat (c.toNat : Int).toNat) = ⟨⟨acc ++ [c]⟩⟩ := by
      simp [ByteArray.push]
    rw [this, ih]
    simp
theorem run_bytes {P : Program} {b p l c : Nat} {s : List UInt8} (w : World) (hl : s.length = l) (hr : RowAt w.heap b p (s.map fun c => .int .u8 c.toNat)) :
    (Conv.bytesToString (.slice (some ⟨b, p, none⟩) l c)).run P w = .ok (.string ⟨⟨s⟩⟩) w := by
  subst hl
  rw [run_bytesToString w ⟨b, p, none⟩ s.length c (s.map fun c => (c.toNat : Int)) (by
    have := run_row (P := P) w hr
    simp only [List.length_map] at this
    rw [this]
    simp [List.map_map, Function.comp_def])]
  have := fold_push s []
  simp only [List.nil_append] at this
  rw [← this]
  rfl

theorem map_arr (xs : Array Operand) (f : Operand → Value) : xs.map f = ⟨xs.toList.map f⟩ := by
  apply Array.ext'
  simp
theorem map_parts (S : St) (df : List Deferred) (parts : Array (Nat × Operand)) : (parts.map fun (i, x) => (i, (⟨⟨S.R⟩, df⟩ : Act).eval x)) = ⟨parts.toList.map fun p => (p.1, ev S p.2)⟩ := by
  apply Array.ext'
  simp [ev_eq]

theorem ev_fun (S : St) (df : List Deferred) : (⟨⟨S.R⟩, df⟩ : Act).eval = ev S := funext (ev_eq S df)
theorem one_type {P : Program} {a : Array TypeId} {d : Option TypeDesc} (h : a.toList.map P.underlying = [d]) : ∃ t, a = #[t] ∧ P.underlying t = d := by
  obtain ⟨l⟩ := a
  simp at h
  obtain ⟨t, h1, h2⟩ := h
  exact ⟨t, by simp [h1], h2⟩
theorem two_types {P : Program} {a : Array TypeId} {d e : Option TypeDesc} (h : a.toList.map P.underlying = [d, e]) : ∃ t u, a = #[t, u] ∧ P.underlying t = d ∧ P.underlying u = e := by
  obtain ⟨l⟩ := a
  match l, h with
  | [t, u], h => simp at h; exact ⟨t, u, rfl, h.1, h.2⟩

/-- An operation that only reads: its value, and the state behind it. -/
theorem opx_read {P : Program} (hE : EqOK P) {o : Oper} {S : St} {H : Heap} {df : List Deferred} {K : St → Heap → Prop} (hc : Con S) (ha : actB o.op = false) (h : opx P o S H K) :
    ∃ v S', (∀ w : World, (blindB o.op = true ∨ HExt H w.heap) → (execOp (⟨⟨S.R⟩, df⟩ : Act).eval o).run P w = .ok (.value v) w) ∧ Con S' ∧ S'.R = putR S.R o.dst v ∧ K S' H := by
  have fin : ∀ (v : Value) (kb : Option Bool), (∀ b q, kb = some b → v = .bool q → q = b) → K (S.put o.dst v kb) H → (∀ w : World, (blindB o.op = true ∨ HExt H w.heap) → (execOp (⟨⟨S.R⟩, df⟩ : Act).eval o).run P w = .ok (.value v) w) →
      ∃ v S', (∀ w : World, (blindB o.op = true ∨ HExt H w.heap) → (execOp (⟨⟨S.R⟩, df⟩ : Act).eval o).run P w = .ok (.value v) w) ∧ Con S' ∧ S'.R = putR S.R o.dst v ∧ K S' H :=
    fun v kb h1 h2 h3 => ⟨v, _, h3, con_put hc o.dst v kb h1, put_R _ _ _ _, h2⟩
  have fin0 : ∀ v : Value, K (S.put o.dst v none) H → (∀ w : World, (blindB o.op = true ∨ HExt H w.heap) → (execOp (⟨⟨S.R⟩, df⟩ : Act).eval o).run P w = .ok (.value v) w) →
      ∃ v S', (∀ w : World, (blindB o.op = true ∨ HExt H w.heap) → (execOp (⟨⟨S.R⟩, df⟩ : Act).eval o).run P w = .ok (.value v) w) ∧ Con S' ∧ S'.R = putR S.R o.dst v ∧ K S' H :=
    fun v h2 h3 => fin v none (fun _ _ h => by cases h) h2 h3
  obtain ⟨dst, op, type, pos, after, guard⟩ := o
  cases op <;> simp only [actB] at ha <;> simp only [opx] at h
  case move x => exact fin _ _ (fun b q h1 h2 => kbo_ev hc h1 h2) h (fun w hw => by simp [execOp, ev_eq])
  case assign x => exact fin _ _ (fun b q h1 h2 => kbo_ev hc h1 h2) h (fun w hw => by simp [execOp, ev_eq])
  case pick c a b =>
    split at h
    · rename_i q hk hv
      have hq := kbo_ev hc hk hv
      subst hq
      exact fin _ _ (fun b q h1 h2 => kbo_ev hc h1 h2) h (fun w hw => by simp [execOp, ev_eq, hv, asBool])
    · rename_i q hk hv
      have hq := kbo_ev hc hk hv
      subst hq
      exact fin _ _ (fun b q h1 h2 => kbo_ev hc h1 h2) h (fun w hw => by simp [execOp, ev_eq, hv, asBool])
    · rename_i t q hk hv
      have hv' : S.R.getD t undef = .bool q := hv
      cases q with
      | true =>
        refine ⟨ev S a, _, fun w hw => by simp [execOp, ev_eq, hv, asBool], con_put (con_know hc hv') dst _ _ (fun b q h1 h2 => kbo_ev hc h1 h2), by rw [put_R]; rfl, h.1 rfl⟩
      | false =>
        refine ⟨ev S b, _, fun w hw => by simp [execOp, ev_eq, hv, asBool], con_put (con_know hc hv') dst _ _ (fun b q h1 h2 => kbo_ev hc h1 h2), by rw [put_R]; rfl, h.2 rfl⟩
    · exact h.elim
  case unOp u t x =>
    cases u <;> simp only at h
    case not =>
      split at h
      · rename_i q hv
        refine fin _ _ (fun b q' h1 h2 => ?_) h (fun w hw => by simp [execOp, ev_eq, hv, Op.unary])
        cases hk : kbo S x with
        | none => rw [hk] at h1; cases h1
        | some b' =>
          rw [hk] at h1
          have h1' : (!b') = b := Option.some.inj h1
          have h2' : (!q) = q' := Value.bool.inj h2
          rw [← h2', ← h1', kbo_ev hc hk hv]
      · exact h.elim
    case neg =>
      split at h
      · rename_i n hv
        have e : Op.unary .neg (.int .i64 n) = pure (.int .i64 (-n)) := by
          show Op.intArith .sub .i64 0 n = _
          simp only [Op.intArith, Int.zero_sub, wrap_ok h.1]
        exact fin0 _ h.2 (fun w hw => by simp only [execOp, ev_eq, hv, e]; rfl)
      · exact h.elim
    all_goals exact h.elim
  case binOp op t x y yt =>
    obtain ⟨v, h1, h2⟩ := binx_run (P := P) hE (xo := x) (yo := y) h
    refine fin0 v h2 fun w hw => ?_
    simp only [execOp, ev_eq]
    rw [Sem.run_bind, h1]
    rfl
  case load t x =>
    split at h
    · rename_i b p hv
      cases ht : tyB P t with
      | false => rw [ht] at h; exact h.elim
      | true =>
        rw [ht, cond_true] at h
        obtain ⟨v, h1, h2⟩ := run_loadx ht h
        exact fin0 v h2 (fun w hw => by simp [execOp, ev_eq, hv, Instr.loadAt, Instr.sureAddr, h1 w (hw.resolve_left (by simp [blindB]))])
    · exact h.elim
  case nilCheck x =>
    split at h
    · rename_i q hv
      exact fin0 _ h (fun w hw => by simp [execOp, ev_eq, hv])
    · exact h.elim
  case indexAddr t x i =>
    split at h
    · rename_i e a l c k n hu hx hi
      obtain ⟨b, p, rfl, h0, h1, h2, h3⟩ := h
      exact fin0 _ h3 (fun w hw => by simp [execOp, ev_eq, hx, hi, run_indexAt w hu h0 h1 h2])
    · rename_i m e b p k n hu hx hi
      obtain ⟨h0, h1, h2, h3⟩ := h
      exact fin0 _ h3 (fun w hw => by simp [execOp, ev_eq, hx, hi, run_indexAt_arr w hu h0 h1 h2])
    · exact h.elim
  case index t x i =>
    split at h
    · rename_i l k n hu hx hi
      obtain ⟨h0, h1, h2⟩ := h
      exact fin0 _ h2 (fun w hw => by simp [execOp, ev_eq, hx, hi, run_index_str w hu h0 h1])
    · exact h.elim
  case slice t x lo hi mx =>
    cases mx with
    | some m => exact h.elim
    | none =>
      simp only at h
      cases ht : sliceB P t with
      | false => rw [ht] at h; exact h.elim
      | true =>
        rw [ht, cond_true] at h
        obtain ⟨v, h1, h2⟩ := slicex_run (P := P) (fun e he => by
          unfold sliceB at ht
          rcases he with he | ⟨n, he⟩ <;> rw [he] at ht <;> exact ht) h
        refine fin0 v h2 fun w hw => ?_
        have e1 : lo.map (⟨⟨S.R⟩, df⟩ : Act).eval = lo.map (ev S) := by cases lo <;> simp [ev_eq]
        have e2 : hi.map (⟨⟨S.R⟩, df⟩ : Act).eval = hi.map (ev S) := by cases hi <;> simp [ev_eq]
        simp [execOp, ev_eq, e1, e2, h1]
  case convert s d x =>
    split at h
    · rename_i k k2 n hs hd hx
      exact fin0 _ h.2 (fun w hw => by simp [execOp, ev_eq, hx, convert, run_underlying hs, run_underlying hd, Conv.intToInt, wrap_kok h.1])
    · rename_i e a l c hs hd hx
      obtain ⟨hu, b, p, rfl, s, hl, hr, h1⟩ := h
      have hu' : P.underlying e = some (.int .u8) := by
        unfold u8B at hu
        split at hu
        · assumption
        · cases hu
      exact fin0 _ h1 (fun w hw => by simp [execOp, ev_eq, hx, convert, run_underlying hs, run_underlying hd, run_underlying hu', run_bytes w hl ((hw.resolve_left (by simp [blindB])).row hr)])
    · exact h.elim
  case build t parts =>
    split at h
    · rename_i v hv
      refine fin0 v h fun w hw => ?_
      simp only [execOp, map_parts, Sem.run_bind, sval_run P _ _ w hv]
      rfl
    · exact h.elim
  case fieldAddr s x f =>
    split at h
    · rename_i v hv
      refine fin0 v h fun w hw => ?_
      simp only [execOp, ev_eq, Sem.run_bind, sval_run P _ _ w hv]
      rfl
    · exact h.elim
  case extract t i =>
    split at h
    · rename_i v hv
      refine fin0 v h fun w hw => ?_
      simp only [execOp, ev_eq, Sem.run_bind, sval_run P _ _ w hv]
      rfl
    · exact h.elim
  case call c =>
    obtain ⟨callee, args, argTypes⟩ := c
    have hb : callee = .builtin .len := by
      cases callee with
      | builtin b => cases b <;> first | rfl | exact absurd (show true = false from ha) (by simp)
      | value f => exact absurd (show true = false from ha) (by simp)
      | invoke r m => exact absurd (show true = false from ha) (by simp)
    subst hb
    simp only [callx] at h
    split at h
    · rename_i l hx ht
      obtain ⟨ty, hty, hu⟩ := one_type ht
      refine fin0 _ h fun w hw => ?_
      simp only [execOp, resolve, map_arr, ev_fun, hx, hty]
      simp [invoke, builtin, Builtin.len_, run_underlying hu, size_str, goInt]
    · rename_i a n c' e hx ht
      obtain ⟨ty, hty, hu⟩ := one_type ht
      refine fin0 _ h fun w hw => ?_
      simp only [execOp, resolve, map_arr, ev_fun, hx, hty]
      simp [invoke, builtin, Builtin.len_, run_underlying hu, goInt]
    · exact h.elim
  all_goals first | exact h.elim | cases ha

/-! ### The operations that act -/
structure Same (w w' : World) : Prop where
  os : w'.os = w.os
  output : w'.output = w.output
  tape : w'.tape = w.tape
theorem Same.refl (w : World) : Same w w := ⟨rfl, rfl, rfl⟩
theorem Same.trans {a b c : World} (h : Same a b) (k : Same b c) : Same a c := ⟨k.os.trans h.os, k.output.trans h.output, k.tape.trans h.tape⟩

theorem hsets_cons (H : Heap) (b o : Nat) (v : Value) (vs : List Value) : hsets H b o (v :: vs) = hsets (hset H b o v) b (o + 1) vs := by
  cases vs <;> rfl
theorem hset_get (H : Heap) (b o : Nat) (v : Value) (c : Array Value) (t : TypeId) (f : Nat × Nat) (h : H[b]? = some (.cells c t f)) : (hset H b o v)[b]? = some (.cells (c.setIfInBounds o v) t f) := by
  unfold hset
  rw [Array.getElem?_modify, if_pos rfl, h]
  rfl
theorem wr_hset {H : Heap} {b o n o' : Nat} {v : Value} (h : Wr H b o n) : Wr (hset H b o' v) b o n := by
  obtain ⟨c, t, h1, h2⟩ := h
  exact ⟨_, _, hset_get H b o' v c t _ h1, by simpa using h2⟩
theorem okCell_one {v : Value} (h : okCell v = true) : v.oneCell' = true := by
  cases v <;> simp [okCell] at h <;> rfl

theorem run_hsets {P : Program} (b p : Nat) : ∀ (vs : List Value) (i : Nat) (w : World), Wr w.heap b (p + i) vs.length → vs.all okCell = true →
    ∃ w', (storeCells ⟨b, p, none⟩ vs i).run P w = .ok () w' ∧ w'.heap = hsets w.heap b (p + i) vs ∧ Same w w'
  | [], i, w, _, _ => ⟨w, rfl, rfl, Same.refl w⟩
  | v :: vs, i, w, hw, ho => by
    simp only [List.all_cons, Bool.and_eq_true] at ho
    obtain ⟨c, t, h1, h2⟩ := hw
    have hcell : w.cell? ⟨b, p + i, none⟩ = some (c[p + i]'(by simp at h2; omega)) := by
      rw [← rd_cell]
      simp [rd, h1]
    have hfr : w.frozen? ⟨b, p + i, none⟩ = false := by
      simp [World.frozen?, h1]
    obtain ⟨w', h3, h4, h5⟩ := run_hsets (P := P) b p vs (i + 1) (w.setCell ⟨b, p + i, none⟩ v) (by
      rw [hset_heap]
      refine wr_hset ⟨c, t, h1, ?_⟩
      simp at h2; omega) ho.2
    refine ⟨w', ?_, ?_, ?_⟩
    · simp only [storeCells, Sem.run_bind, add_none]
      rw [run_store P w ⟨b, p + i, none⟩ v _ (okCell_one ho.1)]
      simp [hcell, hfr, h3]
    · rw [h4, hset_heap, hsets_cons, Nat.add_assoc]
    · exact ⟨h5.os, h5.output, h5.tape⟩

theorem zrow_made {P : Program} {e : Nat} {i : TypeInfo} {z : Value} (hi : P.info? e = some i) (hz : i.zero = some z) (n : Nat) : madeCells z.cells (n * i.size) = zrow P e n := by
  simp [zrow, hi, hz, szOf, madeCells]
theorem zrow_zero {P : Program} {e : Nat} {i : TypeInfo} {z : Value} (hi : P.info? e = some i) (hz : i.zero = some z) (hs : z.cells.size = i.size) (n : Nat) : Builtin.zeroCells z.cells n = zrow P e n := by
  simp [zrow, hi, hz, szOf, Builtin.zeroCells, hs]
theorem elem_of {P : Program} {e : Nat} (h : elemB P e = true) : ∃ i z, P.info? e = some i ∧ i.zero = some z ∧ z.cells.size = i.size ∧ i.bytes ≤ 1000 ∧ szOf P e = i.size := by
  simp only [elemB, Bool.and_eq_true] at h
  obtain ⟨hk, h⟩ := h
  obtain ⟨i, hi, hs, _⟩ := info_of hk
  rw [hi] at h
  simp only [Bool.and_eq_true] at h
  cases hz : i.zero with
  | none => rw [hz] at h; exact absurd h.2 (by simp)
  | some z =>
    rw [hz] at h
    exact ⟨i, z, hi, hz, by simpa using h.2, Nat.le_of_ble_eq_true h.1, hs⟩

theorem nextcap_small (need old : Nat) (h : need ≤ 1000) (ho : old < need) : Builtin.nextslicecap need old ≤ 10000 := by
  unfold Builtin.nextslicecap
  split
  · omega
  · split
    · omega
    · simp only [Builtin.growBy]
      repeat' split
      all_goals omega

theorem run_first {P : Program} {size n : Nat} {a : Option Addr} {l : List Value} {c : Nat} (w : World) (hl : l.length = n * size) (h : RowO w.heap a l) :
    (Builtin.firstCells size n (.slice a n c)).run P w = .ok ⟨l⟩ w := by
  rcases h with ⟨rfl, rfl⟩ | ⟨b, o, rfl, hr⟩
  · simp [Builtin.firstCells]
  · simp only [Builtin.firstCells, ← hl]
    exact run_row w hr

theorem run_appendx {P : Program} {sT xT ty e : Nat} {a xa : Option Addr} {sl sc n xc : Nat} {old new : List Value} {K : Value → Heap → Prop} (w : World)
    (hs : P.underlying sT = some (.slice e)) (hx : ∃ e', P.underlying xT = some (.slice e')) (h1 : old.length = sl * szOf P e) (h2 : new.length = n * szOf P e) (h3 : RowO w.heap a old) (h4 : RowO w.heap xa new) (h5 : sl + n ≤ 1000) (h6 : elemB P e = true)
    (h7 : sl + n ≤ sc → ∃ b o, a = some ⟨b, o, none⟩ ∧ Wr w.heap b (o + sl * szOf P e) (n * szOf P e) ∧ new.all okCell = true ∧ ∀ H', H' = hsets w.heap b (o + sl * szOf P e) new → K (.slice (some ⟨b, o, none⟩) (sl + n) sc) H')
    (h8 : sc < sl + n → ∀ (cap : Nat) (H' : Heap), sl + n ≤ cap → H' = w.heap.push (.cells (⟨old ++ new⟩ ++ zrow P e (cap - (sl + n))) e) → K (.slice (some ⟨w.heap.size, 0, none⟩) (sl + n) cap) H') :
    ∃ v w', (Builtin.append_ #[sT, xT] ty #[.slice a sl sc, .slice xa n xc]).run P w = .ok v w' ∧ Same w w' ∧ K v w'.heap := by
  obtain ⟨i, z, hi, hz, hzs, hb, hsz⟩ := elem_of h6
  obtain ⟨e', hx⟩ := hx
  rw [hsz] at h1 h2 h7
  by_cases hfit : sl + n ≤ sc
  · obtain ⟨b, o, rfl, hw, hok, hK⟩ := h7 hfit
    obtain ⟨w', hr, hh, hsm⟩ := run_hsets (P := P) b (o + sl * i.size) new 0 w (by simpa [h2] using hw) hok
    refine ⟨_, w', ?_, hsm, hK _ (by rw [hh]; rfl)⟩
    have hnew := run_first (P := P) (c := xc) w h2 h4
    simp [Builtin.append_, run_underlying hs, run_underlying hx, sizeOf, typeInfo, hi, Builtin.lenOf, hfit, hnew, add_none, hr]
  · have hlt : sc < sl + n := by omega
    have h63' : ¬ (9223372036854775807 < ((sl : Int) + (n : Int))) := by omega
    have hcap := nextcap_small (sl + n) sc h5 hlt
    have h48' : ¬ (281474976710656 < Builtin.nextslicecap (sl + n) sc * i.bytes) := by
      have := Nat.mul_le_mul hcap hb
      omega
    have hold := run_first (P := P) (c := sc) w.drew h1 h3
    have hnew := run_first (P := P) (c := xc) w.drew h2 h4
    refine ⟨.slice (some ⟨w.heap.size, 0, none⟩) (sl + n) (grownCap w (sl + n) sc e), (w.drew.alloc (.cells (⟨old ++ new⟩ ++ zrow P e (grownCap w (sl + n) sc e - (sl + n))) e)), ?_, ⟨rfl, rfl, rfl⟩, h8 hlt _ _ ?_ rfl⟩
    · simp [Builtin.append_, run_underlying hs, run_underlying hx, sizeOf, typeInfo, zeroValue, hi, hz, Builtin.lenOf, hfit, h63', h48', Question.forced, hold, hnew, newRow, grownCap, zrow_zero hi hz hzs]
      rw [← Array.append_assoc, show ((⟨old⟩ : Array Value) ++ ⟨new⟩) = ⟨old ++ new⟩ from by simp]
    · simp [grownCap, Question.cut]

theorem run_copyx {P : Program} {dT sT ty e : Nat} {a xa : Option Addr} {dl dc sl sc : Nat} {cs : List Value} {K : Value → Heap → Prop} (w : World)
    (hd : P.underlying dT = some (.slice e)) (hk : knownB P e = true) (h1 : cs.length = (Nat.min sl dl) * szOf P e) (h2 : RowO w.heap xa cs)
    (h3 : ∃ b o, a = some ⟨b, o, none⟩ ∧ Wr w.heap b o cs.length ∧ cs.all okCell = true ∧ ∀ H', H' = hsets w.heap b o cs → K (.int .i64 (Nat.min sl dl)) H') :
    ∃ v w', (Builtin.copy_ #[dT, sT] ty #[.slice a dl dc, .slice xa sl sc]).run P w = .ok v w' ∧ Same w w' ∧ K v w'.heap := by
  obtain ⟨b, o, rfl, hw, hok, hK⟩ := h3
  obtain ⟨w', hr, hh, hsm⟩ := run_hsets (P := P) b o cs 0 w hw hok
  refine ⟨_, w', ?_, hsm, hK _ (by rw [hh]; rfl)⟩
  have hf : (Builtin.firstCells (szOf P e) (Nat.min sl dl) (.slice xa sl sc)).run P w = .ok ⟨cs⟩ w := by
    rcases h2 with ⟨rfl, rfl⟩ | ⟨b', o', rfl, hr'⟩
    · simp [Builtin.firstCells]
    · simp only [Builtin.firstCells, ← h1]
      exact run_row w hr'
  simp only [Builtin.copy_]
  simp [run_underlying hd, run_sizeOf' hk, Builtin.lenOf]
  rw [hf]
  simp [hr, goInt]

theorem run_copy_str {P : Program} {dT sT ty e : Nat} {a : Option Addr} {dl dc : Nat} {l : List UInt8} {K : Value → Heap → Prop} (w : World)
    (hd : P.underlying dT = some (.slice e)) (hk : knownB P e = true)
    (h3 : ∃ b o, a = some ⟨b, o, none⟩ ∧ Wr w.heap b o (Nat.min l.length dl) ∧ ∀ H', H' = hsets w.heap b o ((l.take (Nat.min l.length dl)).map fun c => .int .u8 c.toNat) → K (.int .i64 (Nat.min l.length dl)) H') :
    ∃ v w', (Builtin.copy_ #[dT, sT] ty #[.slice a dl dc, .string ⟨⟨l⟩⟩]).run P w = .ok v w' ∧ Same w w' ∧ K v w'.heap := by
  obtain ⟨b, o, rfl, hw, hK⟩ := h3
  have hlen : ((l.take (Nat.min l.length dl)).map fun c => (Value.int .u8 c.toNat)).length = Nat.min l.length dl := by
    simp
  obtain ⟨w', hr, hh, hsm⟩ := run_hsets (P := P) b o ((l.take (Nat.min l.length dl)).map fun c => .int .u8 c.toNat) 0 w (by rw [hlen]; exact hw) (by
    rw [List.all_eq_true]
    intro x hx
    obtain ⟨c, _, rfl⟩ := List.mem_map.1 hx
    rfl)
  refine ⟨_, w', ?_, hsm, hK _ (by rw [hh]; rfl)⟩
  have hf : (Builtin.firstCells (szOf P e) (Nat.min l.length dl) (.string ⟨⟨l⟩⟩)).run P w = .ok ⟨(l.take (Nat.min l.length dl)).map fun c => .int .u8 c.toNat⟩ w := by
    simp only [Builtin.firstCells, extract_str]
    simp
  simp only [Builtin.copy_]
  simp [run_underlying hd, run_sizeOf' hk, Builtin.lenOf, size_str]
  rw [hf]
  simp only [Result.andThen_ok]
  rw [hr]
  simp [goInt]

theorem resx_get {t : Nat} {v : Value} {K : Value → Prop} (h : resx t v K) : K v := by
  have one : ∀ {t : Nat} {v : Value} {K : Value → Prop}, valOf t (fun u => v = u ∧ K u) → K v := by
    intro t v K h
    unfold valOf at h
    split at h
    · unfold structOf at h
      split at h <;> first | (obtain ⟨x, h1, h2⟩ := h; rw [h1]; exact h2) | exact h.elim
    · unfold plainOf at h
      split at h <;> first | (obtain ⟨x, h1, h2⟩ := h; rw [h1]; exact h2) | (obtain ⟨x, y, h1, h2⟩ := h; rw [h1]; exact h2) | (obtain ⟨x, y, z, h1, h2⟩ := h; rw [h1]; exact h2) | exact h.elim
  have some1 : ∀ {t : Nat} {p : Value → Prop}, valOf t p → ∃ u, p u := by
    intro t p h
    unfold valOf at h
    split at h
    · unfold structOf at h
      split at h <;> first | (obtain ⟨x, h1⟩ := h; exact ⟨_, h1⟩) | exact h.elim
    · unfold plainOf at h
      split at h <;> first | (obtain ⟨x, h1⟩ := h; exact ⟨_, h1⟩) | (obtain ⟨x, y, h1⟩ := h; exact ⟨_, h1⟩) | (obtain ⟨x, y, z, h1⟩ := h; exact ⟨_, h1⟩) | exact h.elim
  unfold resx at h
  split at h
  · exact h
  · obtain ⟨a, h⟩ := some1 h
    obtain ⟨b, h1, h2⟩ := some1 h
    rw [h1]; exact h2
  · obtain ⟨a, h⟩ := some1 h
    obtain ⟨b, h⟩ := some1 h
    obtain ⟨c, h1, h2⟩ := some1 h
    rw [h1]; exact h2
  · exact one h

theorem run_callx {P : Program} {f : Nat} (h : callB P f = true) (args : Array Value) (w : World) : (callFunc f args).run P w = .ok (.enter f args) w := by
  unfold callB at h
  split at h
  · rename_i fn hf
    simp at h
    obtain ⟨h1, h2⟩ := h
    simp [callFunc, hf]
    rw [if_neg h2]
    cases hb : fn.body with
    | none => rw [hb] at h1; cases h1
    | some c => simp
  · cases h

/-- An operation that makes memory. -/
theorem opx_soft {P : Program} {o : Oper} {S : St} {w : World} {K : St → Heap → Prop} (ha : actB o.op = true) (hs : softB o.op = true) (h : opx P o S w.heap K) :
    ∃ v w', (execOp (ev S) o).run P w = .ok (.value v) w' ∧ HExt w.heap w'.heap ∧ Same w w' ∧ K (S.put o.dst v none) w'.heap := by
  have fin : ∀ (v : Value) (w' : World), Same w w' → HExt w.heap w'.heap → K (S.put o.dst v none) w'.heap → (execOp (ev S) o).run P w = .ok (.value v) w' → ∃ v w', (execOp (ev S) o).run P w = .ok (.value v) w' ∧ HExt w.heap w'.heap ∧ Same w w' ∧ K (S.put o.dst v none) w'.heap :=
    fun v w' h1 h2 h3 h4 => ⟨v, w', h4, h2, h1, h3⟩
  obtain ⟨dst, op, type, pos, after, guard⟩ := o
  cases op <;> simp only [actB, softB, Bool.not_eq_true'] at ha hs <;> simp only [opx] at h
  case alloc t =>
    split at h
    · rename_i z hz
      refine fin _ { w with heap := w.heap.push (.cells z.cells t) } ⟨rfl, rfl, rfl⟩ (HExt.push _ _) (h _ rfl) ?_
      cases hi : P.info? t with
      | none => rw [hi] at hz; cases hz
      | some i =>
        rw [hi] at hz
        have hz' : i.zero = some z := hz
        simp [execOp, Instr.alloc, zeroValue, typeInfo, hi, hz', newVar, newRow]
    · exact h.elim
  case box t x =>
    refine fin _ { w with heap := w.heap.push (.cells (ev S x).cells t) } ⟨rfl, rfl, rfl⟩ (HExt.push _ _) (h _ rfl) ?_
    simp [execOp, Instr.box, newVar, newRow]
  case makeSlice t l c =>
    split at h
    · rename_i e n m hu hl hm
      obtain ⟨rfl, h0, h1, h2, h3⟩ := h
      obtain ⟨i, z, hi, hz, hzs, hb, hsz⟩ := elem_of h2
      refine fin _ (w.alloc (.cells (zrow P e n.toNat) e)) ⟨rfl, rfl, rfl⟩ (HExt.push _ _) (h3 _ rfl) ?_
      have hbn : (i.bytes : Int) * n ≤ 281474976710656 := by
        have h4 : (i.bytes : Int) * n ≤ 1000 * 1048576 := Int.mul_le_mul (by omega) h1 h0 (by omega)
        omega
      have := run_make (P := P) w t e i z hu hi hz .i64 .i64 n n h0 (Int.le_refl _) hbn (by omega)
      rw [zrow_made hi hz] at this
      simp only [execOp, hl, hm, Sem.run_bind, this]
      rfl
    · exact h.elim
  case buildSlice t len parts =>
    split at h
    · rename_i e cs hb
      refine fin _ { w with heap := w.heap.push (.cells cs e) } ⟨rfl, rfl, rfl⟩ (HExt.push _ _) (h _ rfl) ?_
      unfold bslice at hb
      split at hb
      · rename_i e' hu
        split at hb
        · cases hb
        · rename_i hne
          split at hb
          · rename_i z hz
            cases hf : Instr.fill (fun i => some (i * szOf P e', szOf P e')) ((Array.range (len * szOf P e')).map (z.cells[· % z.cells.size]!)) (parts.toList.map fun p => (p.1, ev S p.2)) with
            | none => rw [hf] at hb; cases hb
            | some cs' =>
              rw [hf] at hb
              simp at hb
              obtain ⟨rfl, rfl⟩ := hb
              cases hi : P.info? e' with
              | none => rw [hi] at hz; cases hz
              | some i =>
                rw [hi] at hz
                have hz' : i.zero = some z := hz
                have hs : szOf P e' = i.size := by simp [szOf, hi]
                rw [hs] at hne hf
                have hp : (parts.map fun (i, x) => (i, ev S x)).toList = parts.toList.map fun p => (p.1, ev S p.2) := by simp
                have h1 : ¬ (16777216 < len * i.size) := by simp at hne; omega
                have h2 : ¬ (len = 0 ∨ i.size = 0) := by
                  simp at hne
                  rintro (h | h) <;> simp [h] at hne
                simp [execOp, Instr.buildSlice, run_underlying hu, sizeOf, typeInfo, hi, zeroValue, hz', newRow, h1, h2]
                rw [hf]
                simp
                intro h0
                exact (h2 (Nat.mul_eq_zero.1 h0)).elim
          · cases hb
      · cases hb
    · exact h.elim
  all_goals first | (cases hs; done) | (cases ha; done) | (rw [ha] at hs; cases hs)

/-- An operation that acts. -/
theorem opx_act {P : Program} {o : Oper} {S : St} {w : World} {df : List Deferred} {K : St → Heap → Prop} {next : Act → World → Prop} {Q : Exit → Act → World → Prop} (hc : Con S) (ha : actB o.op = true) (h : opx P o S w.heap K)
    (hn : ∀ S' w', Con S' → (∃ v, S'.R = putR S.R o.dst v) → Same w w' → K S' w'.heap → next ⟨⟨S'.R⟩, df⟩ w') : o.wp P ⟨⟨S.R⟩, df⟩ w next Q := by
  have fin : ∀ (v : Value) (w' : World), Same w w' → K (S.put o.dst v none) w'.heap → (execOp (ev S) o).run P w = .ok (.value v) w' → o.wp P ⟨⟨S.R⟩, df⟩ w next Q := by
    intro v w' hs hk hr
    unfold Oper.wp
    rw [ev_fun, hr, Oper.upon_value, act_put]
    have := hn _ w' (con_put_none hc o.dst v) ⟨v, put_R _ _ _ _⟩ hs hk
    rwa [put_R] at this
  obtain ⟨dst, op, type, pos, after, guard⟩ := o
  cases op <;> simp only [actB] at ha <;> simp only [opx] at h
  case alloc t =>
    split at h
    · rename_i z hz
      refine fin _ { w with heap := w.heap.push (.cells z.cells t) } ⟨rfl, rfl, rfl⟩ (h _ rfl) ?_
      cases hi : P.info? t with
      | none => rw [hi] at hz; cases hz
      | some i =>
        rw [hi] at hz
        have hz' : i.zero = some z := hz
        simp [execOp, Instr.alloc, zeroValue, typeInfo, hi, hz', newVar, newRow]
    · exact h.elim
  case box t x =>
    refine fin _ { w with heap := w.heap.push (.cells (ev S x).cells t) } ⟨rfl, rfl, rfl⟩ (h _ rfl) ?_
    simp [execOp, Instr.box, newVar, newRow]
  case store t x v =>
    split at h
    · rename_i b p hv
      cases hk : knownB P t && (ev S v).cells.toList.length == szOf P t && (ev S v).cells.toList.all okCell with
      | false => rw [hk] at h; exact h.elim
      | true =>
        rw [hk, cond_true] at h
        simp only [Bool.and_eq_true, beq_iff_eq] at hk
        obtain ⟨⟨hk, hl⟩, hok⟩ := hk
        obtain ⟨hw, h⟩ := h
        obtain ⟨w', hr, hh, hsm⟩ := run_hsets (P := P) b p (ev S v).cells.toList 0 w hw hok
        have hrun : (execOp (ev S) ⟨dst, .store t x v, type, pos, after, guard⟩).run P w = .ok .skip w' := by
          simp [execOp, hv, Instr.storeAt, Instr.sureAddr, storeVar, run_sizeOf' hk]
          rw [if_pos (by simpa using hl)]
          simp [hr]
        unfold Oper.wp
        rw [ev_fun, hrun, Oper.upon_skip, act_put]
        have := hn _ w' (con_put_none hc dst undef) ⟨undef, put_R _ _ _ _⟩ hsm (h _ (by rw [hh]; rfl))
        rwa [put_R] at this
    · exact h.elim
  case makeSlice t l c =>
    split at h
    · rename_i e n m hu hl hm
      obtain ⟨rfl, h0, h1, h2, h3⟩ := h
      obtain ⟨i, z, hi, hz, hzs, hb, hsz⟩ := elem_of h2
      refine fin _ (w.alloc (.cells (zrow P e n.toNat) e)) ⟨rfl, rfl, rfl⟩ (h3 _ rfl) ?_
      have hbn : (i.bytes : Int) * n ≤ 281474976710656 := by
        have h4 : (i.bytes : Int) * n ≤ 1000 * 1048576 := Int.mul_le_mul (by omega) h1 h0 (by omega)
        omega
      have := run_make (P := P) w t e i z hu hi hz .i64 .i64 n n h0 (Int.le_refl _) hbn (by omega)
      rw [zrow_made hi hz] at this
      simp only [execOp, hl, hm, Sem.run_bind, this]
      rfl
    · exact h.elim
  case buildSlice t len parts =>
    split at h
    · rename_i e cs hb
      refine fin _ { w with heap := w.heap.push (.cells cs e) } ⟨rfl, rfl, rfl⟩ (h _ rfl) ?_
      unfold bslice at hb
      split at hb
      · rename_i e' hu
        split at hb
        · cases hb
        · rename_i hne
          split at hb
          · rename_i z hz
            cases hf : Instr.fill (fun i => some (i * szOf P e', szOf P e')) ((Array.range (len * szOf P e')).map (z.cells[· % z.cells.size]!)) (parts.toList.map fun p => (p.1, ev S p.2)) with
            | none => rw [hf] at hb; cases hb
            | some cs' =>
              rw [hf] at hb
              simp at hb
              obtain ⟨rfl, rfl⟩ := hb
              cases hi : P.info? e' with
              | none => rw [hi] at hz; cases hz
              | some i =>
                rw [hi] at hz
                have hz' : i.zero = some z := hz
                have hs : szOf P e' = i.size := by simp [szOf, hi]
                rw [hs] at hne hf
                have hp : (parts.map fun (i, x) => (i, ev S x)).toList = parts.toList.map fun p => (p.1, ev S p.2) := by simp
                have h1 : ¬ (16777216 < len * i.size) := by simp at hne; omega
                have h2 : ¬ (len = 0 ∨ i.size = 0) := by
                  simp at hne
                  rintro (h | h) <;> simp [h] at hne
                simp [execOp, Instr.buildSlice, run_underlying hu, sizeOf, typeInfo, hi, zeroValue, hz', newRow, h1, h2]
                rw [hf]
                simp
                intro h0
                exact (h2 (Nat.mul_eq_zero.1 h0)).elim
          · cases hb
      · cases hb
    · exact h.elim
  case call c =>
    obtain ⟨callee, args, argTypes⟩ := c
    cases callee with
    | invoke r m => exact h.elim
    | value f =>
      cases f with
      | func f =>
        simp only [callx] at h
        cases hb : callB P f with
        | false => rw [hb] at h; exact h.elim
        | true =>
          rw [hb, cond_true] at h
          have hrun : (execOp (ev S) ⟨dst, .call ⟨.value (.func f), args, argTypes⟩, type, pos, after, guard⟩).run P w = .ok (.enter f ⟨args.toList.map (ev S)⟩) w := by
            simp only [execOp, resolve, map_arr]
            simp [ev, Deferred.ofValue, invoke, run_callx hb]
          unfold Oper.wp
          rw [ev_fun, hrun, Oper.upon_enter]
          refine (h w rfl).mono ?_
          rintro e w' ⟨v, rfl, hR, hs⟩
          show next _ w'
          rw [act_put]
          have := hn _ w' (con_put_none hc dst v) ⟨v, put_R _ _ _ _⟩ ⟨hs.1, hs.2.1, hs.2.2⟩ (resx_get hR)
          rwa [put_R] at this
      | tmp t => exact h.elim
      | const v => exact h.elim
      | global g => exact h.elim
    | builtin b =>
      have hb : b = .append ∨ b = .copy := by
        cases b <;> first | exact .inl rfl | exact .inr rfl | exact h.elim | cases ha
      rcases hb with rfl | rfl
      · simp only [callx] at h
        split at h
        · rename_i a sl sc xa n xc e e' hx ht
          obtain ⟨sT, xT, rfl, hs, hx'⟩ := two_types ht
          obtain ⟨old, new, h1, h2, h3, h4, h5, h6, h7, h8⟩ := h
          obtain ⟨v, w', hr, hsm, hK⟩ := run_appendx (P := P) (ty := type) (xc := xc) (K := fun v H' => K (S.put dst v none) H') w hs ⟨e', hx'⟩ h1 h2 h3 h4 h5 h6 h7 h8
          refine fin v w' hsm hK ?_
          simp only [execOp, resolve, map_arr, hx]
          simp [invoke, builtin, hr]
        · exact h.elim
      · simp only [callx] at h
        split at h
        · rename_i a dl dc xa sl sc e e' hx ht
          obtain ⟨sT, xT, rfl, hs, hx'⟩ := two_types ht
          obtain ⟨hk, cs, h1, h2, h3⟩ := h
          obtain ⟨v, w', hr, hsm, hK⟩ := run_copyx (P := P) (sT := xT) (ty := type) (dc := dc) (sc := sc) (K := fun v H' => K (S.put dst v none) H') w hs hk h1 h2 h3
          refine fin v w' hsm hK ?_
          simp only [execOp, resolve, map_arr, hx]
          simp [invoke, builtin, hr]
        · rename_i a dl dc l e hx ht
          obtain ⟨sT, xT, rfl, hs, hx'⟩ := two_types ht
          obtain ⟨hk, h1, h3⟩ := h
          obtain ⟨v, w', hr, hsm, hK⟩ := run_copy_str (P := P) (sT := xT) (ty := type) (dc := dc) (K := fun v H' => K (S.put dst v none) H') w hs hk h3
          refine fin v w' hsm hK ?_
          simp only [execOp, resolve, map_arr, hx]
          simp [invoke, builtin, hr]
        · exact h.elim
  all_goals first | exact h.elim | cases ha

/-! ### Regions -/
theorem yield_of {ops : Array Oper} {S : St} {j d : Nat} (h : (ops.toList[j]?).bind (·.dst) = some d) : yielded ops ⟨S.R⟩ j = match S.R.getD d undef with | .bool b => some b | _ => none := by
  unfold yielded
  have h' : (ops[j]?).bind (·.dst) = some d := by simpa using h
  rw [h']
  simp only [Option.bind_some]
  by_cases hd : d < S.R.length
  · simp [List.getD, hd]
    generalize S.R[d] = v
    cases v <;> rfl
  · simp [List.getD, hd, undef]

/-- One operation behind its guard: it is wanted, or it is passed over. -/
theorem opg_cases {P : Program} {ops : Array Oper} {o : Oper} {S : St} {H : Heap} {K : St → Heap → Prop} (hc : Con S) (h : opg P ops o S H K) :
    (Region.wanted o (yielded ops ⟨S.R⟩) = true ∧ ∃ S', Con S' ∧ S'.R = S.R ∧ opx P o S' H K) ∨
    (Region.wanted o (yielded ops ⟨S.R⟩) = false ∧ ∃ S', Con S' ∧ S'.R = putR S.R o.dst undef ∧ K S' H) := by
  unfold opg at h
  cases hg : o.guard with
  | none =>
    rw [hg] at h
    exact .inl ⟨by simp [Region.wanted, hg], S, hc, rfl, h⟩
  | some jw =>
    obtain ⟨j, want⟩ := jw
    rw [hg] at h
    simp only at h
    split at h
    · exact h.elim
    · rename_i d hd
      have hy := yield_of (S := S) hd
      split at h
      · rename_i c q hl hv
        rw [hv] at hy
        have hq := hc _ _ _ hl hv
        subst hq
        cases hcw : q == want with
        | true =>
          rw [hcw, cond_true] at h
          exact .inl ⟨by simp only [Region.wanted, hg, hy]; simpa using hcw, S, hc, rfl, h⟩
        | false =>
          rw [hcw, cond_false] at h
          exact .inr ⟨by simp only [Region.wanted, hg, hy]; simpa using hcw, _, con_put_none hc o.dst undef, put_R _ _ _ _, h⟩
      · rename_i c hl hv
        rw [hv] at hy
        by_cases hcw : c = want
        · subst hcw
          exact .inl ⟨by simp only [Region.wanted, hg, hy]; simp, _, con_know hc hv, rfl, h.1 rfl⟩
        · have hcn : c = !want := by cases c <;> cases want <;> simp_all
          refine .inr ⟨by simp only [Region.wanted, hg, hy]; simpa using hcw, _, con_put_none (con_know hc (hcn ▸ hv)) o.dst undef, by rw [put_R]; rfl, h.2 hcn⟩
      · rename_i h1 h2
        refine .inr ⟨?_, _, con_put_none hc o.dst undef, put_R _ _ _ _, h⟩
        simp only [Region.wanted, hg, hy]
        cases hv : S.R.getD d undef <;> simp
        rename_i c
        cases hl : S.B.lookup d with
        | none => exact absurd hv (h2 c hl)
        | some c' => exact absurd hv (h1 c' c hl)

/-- A region in the order of the text. 'Inv': what every store into a slot of the region keeps. -/
theorem regx_list {P : Program} (hE : EqOK P) {ops : Array Oper} {df : List Deferred} {Q : Exit → Act → World → Prop} {K : St → Heap → Prop} {w0 : World} {Inv : List Value → Prop}
    (hQ : ∀ S w, Con S → Inv S.R → Same w0 w → K S w.heap → Q .normal ⟨⟨S.R⟩, df⟩ w) :
    ∀ (l : List Oper) (S : St) (w : World), (∀ o ∈ l, ∀ R v, Inv R → Inv (putR R o.dst v)) → Con S → Inv S.R → Same w0 w → regx P ops l S w.heap K → wpList P ops Q l ⟨⟨S.R⟩, df⟩ w
  | [], S, w, _, hc, hi, hs, h => hQ S w hc hi hs h
  | o :: l, S, w, hI, hc, hi, hs, h => by
    simp only [regx] at h
    have hI' : ∀ o ∈ l, ∀ R v, Inv R → Inv (putR R o.dst v) := fun o ho => hI o (by simp [ho])
    rcases opg_cases hc h with ⟨hw, S', hc', hR, hx⟩ | ⟨hw, S', hc', hR, hx⟩
    · rw [← hR] at hw hi
      unfold wpList
      rw [if_pos (by rw [← hR]; exact hw)]
      rw [← hR]
      refine .inl ?_
      cases ha : actB o.op with
      | true => exact opx_act hc' ha hx fun S'' w'' hc'' ⟨v, hv⟩ hs'' hk => regx_list hE hQ l S'' w'' hI' hc'' (hv ▸ hI o (by simp) _ v hi) (hs.trans hs'') hk
      | false =>
        obtain ⟨v, S'', hr, hc'', hR'', hk⟩ := opx_read hE (df := df) hc' ha hx
        unfold Oper.wp
        rw [hr _ (.inr (HExt.refl _)), Oper.upon_value, act_put, ← hR'']
        exact regx_list hE hQ l S'' w hI' hc'' (hR'' ▸ hI o (by simp) _ v hi) hs hk
    · unfold wpList
      rw [if_neg (by rw [hw]; simp), act_put, ← hR]
      exact regx_list hE hQ l S' w hI' hc' (hR ▸ hI o (by simp) _ undef hi) hs hx

/-- The operations that read, ahead of the others, in a world that stays. -/
theorem regx_still {P : Program} (hE : EqOK P) {ops : Array Oper} {df : List Deferred} {w : World} {Lq : Act → Prop} {K : St → Heap → Prop} {Inv : List Value → Prop}
    (hQ : ∀ S, Con S → Inv S.R → K S w.heap → Lq ⟨⟨S.R⟩, df⟩) :
    ∀ (l : List Oper) (S : St), (∀ o ∈ l, ∀ R v, Inv R → Inv (putR R o.dst v)) → Con S → Inv S.R → (∀ o ∈ l, actB o.op = false) → regx P ops l S w.heap K → wpStill P ops w Lq l ⟨⟨S.R⟩, df⟩
  | [], S, _, hc, hi, _, h => hQ S hc hi h
  | o :: l, S, hI, hc, hi, ha, h => by
    simp only [regx] at h
    have hI' : ∀ o ∈ l, ∀ R v, Inv R → Inv (putR R o.dst v) := fun o ho => hI o (by simp [ho])
    rcases opg_cases hc h with ⟨hw, S', hc', hR, hx⟩ | ⟨hw, S', hc', hR, hx⟩
    · unfold wpStill
      rw [if_pos hw, ← hR]
      rw [← hR] at hi
      obtain ⟨v, S'', hr, hc'', hR'', hk⟩ := opx_read hE (df := df) hc' (ha o (by simp)) hx
      unfold Oper.still
      rw [hr _ (.inr (HExt.refl _)), Oper.stillUpon_value, act_put, ← hR'']
      exact regx_still hE hQ l S'' hI' hc'' (hR'' ▸ hI o (by simp) _ v hi) (fun o ho => ha o (by simp [ho])) hk
    · unfold wpStill
      rw [if_neg (by rw [hw]; simp), act_put, ← hR]
      exact regx_still hE hQ l S' hI' hc' (hR ▸ hI o (by simp) _ undef hi) (fun o ho => ha o (by simp [ho])) hx

theorem regx_append {P : Program} {ops : Array Oper} {K : St → Heap → Prop} : ∀ (l m : List Oper) (S : St) (H : Heap), regx P ops (l ++ m) S H K = regx P ops l S H fun S' H' => regx P ops m S' H' K
  | [], _, _, _ => rfl
  | o :: l, m, S, H => by
    simp only [List.cons_append, regx]
    congr 1
    funext S' H'
    exact regx_append l m S' H'

theorem actIdx_reads (ops : List Oper) : ∀ o ∈ ops.take (actIdx ops), actB o.op = false := by
  intro o ho
  unfold actIdx at ho
  obtain ⟨j, hj, rfl⟩ := List.mem_iff_getElem.1 ho
  simp only [List.getElem_take]
  simp only [List.length_take] at hj
  have := List.not_of_lt_findIdx (p := fun o : Oper => actB o.op) (xs := ops) (i := j) (by omega)
  simpa using this

/-- A region, of either kind. -/
theorem region_sound {P : Program} (hE : EqOK P) (hm : P.follows .mixedOrders = true) {id : Nat} {ops : Array Oper} {draw : Bool} (hd : draw = true → drawB ops = true) {df : List Deferred}
    {Q : Exit → Act → World → Prop} {K : St → Heap → Prop} {S : St} {w : World} {Inv : List Value → Prop} (hI : ∀ o ∈ ops.toList, ∀ R v, Inv R → Inv (putR R o.dst v)) (hc : Con S) (hi : Inv S.R)
    (hQ : ∀ S w', Con S → Inv S.R → Same w w' → K S w'.heap → Q .normal ⟨⟨S.R⟩, df⟩ w') (h : regx P ops ops.toList S w.heap K) : (Code.region id ops draw).wp P Q ⟨⟨S.R⟩, df⟩ w := by
  cases draw with
  | false => exact wp_region_list (regx_list hE hQ ops.toList S w hI hc hi (Same.refl w) h)
  | true =>
    have hd := hd rfl
    obtain ⟨l⟩ := ops
    unfold drawB at hd
    by_cases hn : actIdx l < l.length
    · simp only [hn, if_true] at hd
      have e : l = l.take (actIdx l) ++ l.drop (actIdx l) := (List.take_append_drop _ _).symm
      refine wp_region_still_tail (actIdx l) hm hd ?_
      have h' : regx P ⟨l⟩ (l.take (actIdx l)) S w.heap fun S' H' => regx P ⟨l⟩ (l.drop (actIdx l)) S' H' K := by
        rw [← regx_append, ← e]; exact h
      exact regx_still (w := { w with drawn := w.drawn + 1 }) hE (Inv := Inv) (fun S' hc' hi' hk => regx_list hE (w0 := { w with drawn := w.drawn + 1 }) (Inv := Inv) (fun S'' w'' hc'' hi'' hs'' hk'' => hQ S'' w'' hc'' hi'' ⟨hs''.os, hs''.output, hs''.tape⟩ hk'') _ S' _ (fun o ho => hI o (List.mem_of_mem_drop ho)) hc' hi' (Same.refl _) hk) _ S
        (fun o ho => hI o (List.mem_of_mem_take ho)) hc hi (actIdx_reads l) h'
    · simp only [hn, if_false] at hd
      refine wp_region_still hm hd ?_
      refine regx_still (w := { w with drawn := w.drawn + 1 }) hE (K := K) (Inv := Inv) (fun S' hc' hi' hk => hQ S' { w with drawn := w.drawn + 1 } hc' hi' ⟨rfl, rfl, rfl⟩ hk) _ S hI hc hi (fun o ho => ?_) h
      have := actIdx_reads l o
      rw [List.take_of_length_le (by omega)] at this
      exact this ho

/-! ### Regions that draw, in general -/
section
variable {P : Program} {ops : Array Oper} {Q : Exit → Act → World → Prop}

/-- What an operation that acts answers, with no state in sight. -/
def outv (P : Program) (M : Value → World → Prop) : Result Next → Prop
  | .ok (.value v) w' => M v w'
  | .ok .skip w' => M undef w'
  | .ok (.enter f args) w' => Calls P f args w' fun
      | .returned v, w'' => M v w''
      | .panicked _, _ => False
      | .outgrown, _ => LetsOut fun _ _ _ => False
  | .ok (.row row args) w' => Rows P row args w' fun v w'' => M v w''
  | _ => False
theorem outv_mono {M M' : Value → World → Prop} (hm : ∀ v w, M v w → M' v w) {r : Result Next} (h : outv P M r) : outv P M' r := by
  unfold outv at *
  split at h
  · exact hm _ _ h
  · exact hm _ _ h
  · exact Calls.mono h (fun r w h => by cases r <;> first | exact hm _ _ h | exact h)
  · exact Rows.mono h (fun v w h => hm _ _ h)
  · exact h
theorem upon_outv {o : Oper} {R : List Value} {df : List Deferred} {next : Act → World → Prop} {r : Result Next}
    (h : o.upon P ⟨⟨R⟩, df⟩ (fun a' w' => a'.defers = df ∧ next a' w') (fun _ _ _ => False) r) : outv P (fun v w => next ((⟨⟨R⟩, df⟩ : Act).put o.dst v) w) r := by
  unfold Oper.upon at h
  unfold outv
  split at h
  · exact h.2
  · exact h.2
  · obtain ⟨h2, h3⟩ := h
    rw [act_put] at h2
    exact absurd h2 (by intro e; have := congrArg List.length e; simp at this)
  · exact Calls.mono h (fun r w h => by
      cases r with
      | returned v => exact h.2
      | panicked c => exact h
      | outgrown => exact h)
  · exact Rows.mono h (fun v w h => h.2)
  all_goals exact h.elim

/-- Operation j comes up: a soft one says itself what it does. -/
def stepP (P : Program) (ops : Array Oper) (j : Nat) (K : Act → World → Prop) (a : Act) (w : World) : Prop :=
  match ops[j]? with
  | none => K a w
  | some o =>
    if Region.wanted o (yielded ops a.tmps) then
      (if softB o.op then ∃ v w', (execOp a.eval o).run P w = .ok (.value v) w' ∧ HExt w.heap w'.heap ∧ K (a.put o.dst v) w' else outv P (fun v w' => K (a.put o.dst v) w') ((execOp a.eval o).run P w))
    else K (a.put o.dst undef) w

theorem stepP_op {Q : Exit → Act → World → Prop} {j : Nat} {K : Act → World → Prop} {a : Act} {w : World} (h : stepP P ops j K a w) : wpOp P ops Q j K a w := by
  unfold stepP at h
  unfold wpOp
  split
  · rename_i ho; simp only [ho] at h; exact h
  · rename_i o ho
    simp only [ho] at h
    split
    · rename_i hw
      rw [if_pos hw] at h
      refine .inl ?_
      split at h
      · obtain ⟨v, w', h1, h2, h3⟩ := h
        unfold Oper.wp
        rw [h1]
        exact h3
      · unfold Oper.wp
        unfold outv at h
        unfold Oper.upon
        generalize (execOp a.eval o).run P w = r at h ⊢
        split at h
        · exact h
        · exact h
        · exact Calls.mono h (fun r w h => by
            cases r with
            | returned v => exact h
            | panicked c => exact h.elim
            | outgrown => exact (by obtain ⟨_, _, h⟩ := h; exact h.elim))
        · exact h
        · exact h.elim
    · rename_i hw
      rw [if_neg hw] at h
      exact h
theorem stepP_mono {j : Nat} {K K' : Act → World → Prop} {a : Act} {w : World} (hk : ∀ a w, K a w → K' a w) (h : stepP P ops j K a w) : stepP P ops j K' a w := by
  unfold stepP at *
  split
  · rename_i ho; simp only [ho] at h; exact hk _ _ h
  · rename_i o ho
    simp only [ho] at h
    split
    · rename_i hw
      rw [if_pos hw] at h
      split at h
      · rename_i hs
        rw [if_pos hs]
        obtain ⟨v, w', h1, h2, h3⟩ := h
        exact ⟨v, w', h1, h2, hk _ _ h3⟩
      · rename_i hs
        rw [if_neg hs]
        exact outv_mono (fun v w h => hk _ _ h) h
    · rename_i hw
      rw [if_neg hw] at h
      exact hk _ _ h

def anyP (P : Program) (ops : Array Oper) (Q : Exit → Act → World → Prop) : Nat → Array Bool → Act → World → Prop
  | 0, listed, a, w => Region.ready .any ops listed = [] ∧ Q .normal a w
  | fuel + 1, listed, a, w => (Region.ready .any ops listed = [] → Q .normal a w) ∧ ∀ i ∈ Region.ready .any ops listed, stepP P ops i (anyP P ops Q fuel (listed.setIfInBounds i true)) a w
theorem anyP_any : ∀ (fuel : Nat) (listed : Array Bool) (a : Act) (w : World), anyP P ops Q fuel listed a w → wpAny P .any ops Q fuel listed a w
  | 0, _, _, _, h => h
  | fuel + 1, listed, a, w, h => ⟨h.1, fun i hi => stepP_op (stepP_mono (fun a w h => anyP_any fuel _ a w h) (h.2 i hi))⟩

/-- In state a operation o yields v, in every world whose heap T lets pass. -/
def YieldsX (P : Program) (ops : Array Oper) (T : Heap → Prop) (o : Oper) (v : Value) (a : Act) : Prop :=
  (Region.wanted o (yielded ops a.tmps) = true ∧ softB o.op = true ∧ ∀ w : World, T w.heap → (execOp a.eval o).run P w = .ok (.value v) w) ∨
  (Region.wanted o (yielded ops a.tmps) = false ∧ v = undef)
theorem YieldsX.of_same {T : Heap → Prop} {o : Oper} {v : Value} {a a' : Act} (hy : YieldsX P ops T o v a) (he : execOp a'.eval o = execOp a.eval o)
    (hw : Region.wanted o (yielded ops a'.tmps) = Region.wanted o (yielded ops a.tmps)) : YieldsX P ops T o v a' := by
  unfold YieldsX at *
  rw [he, hw]
  exact hy
theorem YieldsX.step {T : Heap → Prop} {i : Nat} {o : Oper} {v : Value} {a : Act} {w : World} {K : Act → World → Prop} (hi : ops[i]? = some o) (hy : YieldsX P ops T o v a) (hx : T w.heap) (h : K (a.put o.dst v) w) : stepP P ops i K a w := by
  unfold stepP
  simp only [hi]
  rcases hy with ⟨hw, hs, hv⟩ | ⟨hw, rfl⟩
  · rw [if_pos hw, if_pos hs]
    exact ⟨v, w, hv w hx, HExt.refl _, h⟩
  · rw [if_neg (by rw [hw]; simp)]
    exact h
theorem stepP_put {T : Heap → Prop} (hT : ∀ H H', HExt H H' → T H → T H') {j : Nat} {oi oj : Oper} {v : Value} (hj : ops[j]? = some oj) (hap : oi.apart ops oj = true) (hsoft : softB oj.op = true ∨ ∀ H, T H)
    (hsi : ∀ cs b, oi.op ≠ .select cs b) (hsj : ∀ cs b, oj.op ≠ .select cs b) {K : Act → World → Prop} {a : Act} {w : World}
    (hy : YieldsX P ops T oi v a) (hx : T w.heap) (h : stepP P ops j K (a.put oi.dst v) w) :
    stepP P ops j (fun a' w' => YieldsX P ops T oi v a' ∧ T w'.heap ∧ K (a'.put oi.dst v) w') a w := by
  obtain ⟨h1, h2, h3⟩ := Oper.apart_spec hap
  have keep : ∀ u, YieldsX P ops T oi v (a.put oj.dst u) := fun u =>
    hy.of_same (execOp_put oi hsi a oj.dst u h3) (wanted_put oi a oj.dst u h3)
  unfold stepP at *
  simp only [hj] at *
  rw [wanted_put oj a oi.dst v h1] at h
  split
  · rename_i hw
    rw [if_pos hw] at h
    split at h
    · rename_i hs
      rw [if_pos hs]
      obtain ⟨u, w', hr, hg, hk⟩ := h
      rw [execOp_put oj hsj a oi.dst v h1] at hr
      exact ⟨u, w', hr, hg, keep u, hT _ _ hg hx, by rw [← Act.put_comm a v u h2]; exact hk⟩
    · rename_i hs
      rw [if_neg hs]
      rw [execOp_put oj hsj a oi.dst v h1] at h
      exact outv_mono (fun u w' hk => ⟨keep u, hsoft.resolve_left hs _, by rw [← Act.put_comm a v u h2]; exact hk⟩) h
  · rename_i hw
    rw [if_neg hw] at h
    exact ⟨keep undef, hx, by rw [← Act.put_comm a v undef h2]; exact h⟩

theorem anyP_first {T : Heap → Prop} (hT : ∀ H H', HExt H H' → T H → T H') {i : Nat} {oi : Oper} {v : Value} (hi : ops[i]? = some oi) (hsel : ∀ (j : Nat) (o : Oper) cs b, ops[j]? = some o → o.op ≠ .select cs b) :
    ∀ (fuel : Nat) (listed : Array Bool) (a : Act) (w : World),
      (∀ j oj, ops[j]? = some oj → j ≠ i → listed.getD j true = false → (∀ e ∈ oj.after, Region.binds .any e = true → e.on ≠ i) → oi.apart ops oj = true ∧ (softB oj.op = true ∨ ∀ H, T H)) →
      i ∈ Region.ready .any ops listed → YieldsX P ops T oi v a → T w.heap →
      anyP P ops Q fuel (listed.setIfInBounds i true) (a.put oi.dst v) w → anyP P ops Q (fuel + 1) listed a w := by
  intro fuel
  induction fuel with
  | zero =>
    intro listed a w _ hr hy hx hH
    refine ⟨fun h => (by rw [h] at hr; cases hr), fun j hj => ?_⟩
    by_cases hji : j = i
    · subst hji; exact hy.step hi hx hH
    · have := ready_mono hj hji
      rw [hH.1] at this
      cases this
  | succ fuel ih =>
    intro listed a w hfree hr hy hx hH
    refine ⟨fun h => (by rw [h] at hr; cases hr), fun j hj => ?_⟩
    by_cases hji : j = i
    · subst hji; exact hy.step hi hx hH
    · have h1 := hH.2 j (ready_mono hj hji)
      obtain ⟨hjun, oj, hoj, hall⟩ := mem_ready.1 hj
      have hnot : ∀ e ∈ oj.after, Region.binds .any e = true → e.on ≠ i := fun e he hb heq => by
        have h1 := hall e he hb
        have h0 := (mem_ready.1 hr).1
        rw [heq] at h1
        rcases Nat.lt_or_ge i listed.size with h' | h'
        · simp [h'] at h0 h1; rw [h0] at h1; cases h1
        · simp [Array.getElem?_eq_none h'] at h1
      have hf := hfree j oj hoj hji hjun hnot
      have h2 := stepP_put hT hoj hf.1 hf.2 (fun cs b => hsel i oi cs b hi) (fun cs b => hsel j oj cs b hoj) hy hx h1
      have hfree' : ∀ k ok, ops[k]? = some ok → k ≠ i → (listed.setIfInBounds j true).getD k true = false →
          (∀ e ∈ ok.after, Region.binds .any e = true → e.on ≠ i) → oi.apart ops ok = true ∧ (softB ok.op = true ∨ ∀ H, T H) := fun k ok hk hki hun hno => by
        refine hfree k ok hk hki ?_ hno
        by_cases hjk : j = k
        · subst hjk; exact hjun
        · rw [Go.getD_set_ne true hjk] at hun; exact hun
      refine stepP_mono (fun a' w' h3 => ih (listed.setIfInBounds j true) a' w' hfree' (ready_mono hr (Ne.symm hji)) h3.1 h3.2.1 ?_) h2
      rw [Array.setIfInBounds_comm _ _ hji]
      exact h3.2.2

theorem allx_get {p : Nat → Prop} : ∀ {l : List Nat} {i : Nat}, allx p l → i ∈ l → p i
  | [i], j, h, hj => by simp at hj; subst hj; exact h
  | i :: k :: l, j, h, hj => by
    simp only [allx] at h
    rcases List.mem_cons.1 hj with rfl | hj
    · exact h.1
    · exact allx_get h.2 hj

/-- An operation behind its guard, as a step. -/
theorem opg_step (hE : EqOK P) {df : List Deferred} {j : Nat} {o : Oper} {S : St} {w : World} {K : St → Heap → Prop} {next : Act → World → Prop} {Inv : List Value → Prop} (hj : ops[j]? = some o) (hc : Con S) (hi : Inv S.R)
    (hI : ∀ R v, Inv R → Inv (putR R o.dst v)) (h : opg P ops o S w.heap K)
    (hn : ∀ S' w', Con S' → Inv S'.R → Same w w' → K S' w'.heap → next ⟨⟨S'.R⟩, df⟩ w') : stepP P ops j next ⟨⟨S.R⟩, df⟩ w := by
  unfold stepP
  simp only [hj]
  rcases opg_cases hc h with ⟨hw, S', hc', hR, hx⟩ | ⟨hw, S', hc', hR, hx⟩
  · rw [if_pos hw, ← hR]
    rw [← hR] at hi
    cases ha : actB o.op with
    | false =>
      have hs : softB o.op = true := by
        cases ho : o.op <;> simp [softB, ho, ← ha]
        all_goals (rw [ho] at ha; simp [actB] at ha)
      rw [if_pos hs]
      obtain ⟨v, S'', hr, hc'', hR'', hk⟩ := opx_read hE (df := df) hc' ha hx
      refine ⟨v, w, hr w (.inr (HExt.refl _)), HExt.refl _, ?_⟩
      rw [act_put, ← hR'']
      exact hn S'' w hc'' (hR'' ▸ hI _ v hi) (Same.refl w) hk
    | true =>
      by_cases hs : softB o.op = true
      · rw [if_pos hs]
        obtain ⟨v, w', hr, hg, hsm, hk⟩ := opx_soft ha hs hx
        refine ⟨v, w', by rw [ev_fun]; exact hr, hg, ?_⟩
        have := hn _ w' (con_put_none hc' o.dst v) (by rw [put_R]; exact hI _ v hi) hsm hk
        rwa [put_R, ← act_put] at this
      · rw [if_neg hs]
        have := opx_act (Q := fun _ _ _ => False) (next := fun a' w' => a'.defers = df ∧ next a' w') hc' ha hx fun S'' w'' hc'' ⟨v, hv⟩ hs'' hk =>
          ⟨rfl, hn S'' w'' hc'' (hv ▸ hI _ v hi) hs'' hk⟩
        exact upon_outv this
  · rw [if_neg (by rw [hw]; simp), act_put, ← hR]
    exact hn S' w hc' (hR ▸ hI _ undef hi) (Same.refl w) hx

end

theorem anyx_sound {P : Program} (hE : EqOK P) {ops : Array Oper} {df : List Deferred} {Q : Exit → Act → World → Prop} {K : St → Heap → Prop} {w0 : World} {Inv : List Value → Prop} (hsel : Region.noSelect ops = true)
    (hI : ∀ o ∈ ops.toList, ∀ R v, Inv R → Inv (putR R o.dst v)) (hQ : ∀ S w, Con S → Inv S.R → Same w0 w → K S w.heap → Q .normal ⟨⟨S.R⟩, df⟩ w) :
    ∀ (n : Nat) (listed : Array Bool) (S : St) (w : World), Con S → Inv S.R → Same w0 w → anyx P ops n listed S w.heap K → anyP P ops Q n listed ⟨⟨S.R⟩, df⟩ w
  | 0, listed, S, w, hc, hi, hs, h => by
    simp only [anyx] at h
    cases hr : (Region.ready .any ops listed).isEmpty with
    | false => rw [hr] at h; exact h.elim
    | true => rw [hr] at h; exact ⟨by simpa using hr, hQ S w hc hi hs h⟩
  | n + 1, listed, S, w, hc, hi, hs, h => by
    simp only [anyx] at h
    split at h
    · rename_i hr
      exact ⟨fun _ => hQ S w hc hi hs h, fun i hi' => by rw [hr] at hi'; cases hi'⟩
    · rename_i hne
      have hmem : ∀ i o, ops.toList[i]? = some o → o ∈ ops.toList := fun i o ho => List.mem_of_getElem? ho
      have hget : ∀ i o, ops.toList[i]? = some o → ops[i]? = some o := fun i o ho => by rw [← Array.getElem?_toList]; exact ho
      split at h
      · rename_i i hf
        have hir : i ∈ Region.ready .any ops listed := List.mem_of_find?_eq_some hf
        have hfi := List.find?_some hf
        split at h
        · rename_i o ho
          unfold firstB at hfi
          rw [ho] at hfi
          simp only [Bool.and_eq_true, Bool.not_eq_true'] at hfi
          obtain ⟨⟨ha, hfree⟩, hall⟩ := hfi
          have hofree := Region.free_spec (hget i o ho) hfree
          have hyk : ∃ v S', YieldsX P ops (fun H => blindB o.op = true ∨ HExt w.heap H) o v ⟨⟨S.R⟩, df⟩ ∧ Con S' ∧ S'.R = putR S.R o.dst v ∧ anyx P ops n (listed.setIfInBounds i true) S' w.heap K := by
            rcases opg_cases hc h with ⟨hw, S', hc', hR, hx⟩ | ⟨hw, S', hc', hR, hx⟩
            · obtain ⟨v, S'', hr, hc'', hR'', hk⟩ := opx_read hE (df := df) hc' ha hx
              refine ⟨v, S'', .inl ⟨hw, ?_, fun w' hw' => ?_⟩, hc'', hR'' ▸ hR ▸ rfl, hk⟩
              · cases hop : o.op <;> rw [hop] at ha <;> simp [softB, actB] at ha ⊢ <;> first | done | exact ha
              · rw [← hR]; exact hr w' hw'
            · exact ⟨undef, S', .inr ⟨hw, rfl⟩, hc', hR, hx⟩
          obtain ⟨v, S', hy, hc', hR', hk⟩ := hyk
          refine anyP_first (T := fun H => blindB o.op = true ∨ HExt w.heap H) (fun H H' h1 h2 => h2.elim .inl fun h => .inr (h.trans h1)) (hget i o ho) (Region.noSelect_spec hsel) n listed _ w (fun j oj hj hne' hun hno => ⟨hofree j oj hj hne' hun hno, ?_⟩) hir hy (.inr (HExt.refl _)) ?_
          · rcases Bool.or_eq_true _ _ ▸ hall with hp | hall
            · exact .inr fun H => .inl hp
            · refine .inl ?_
              rw [List.all_eq_true] at hall
              have hjl : j < ops.toList.length := by simpa using (Array.getElem?_eq_some_iff.1 hj).1
              have := hall j (List.mem_range.2 hjl)
              have hj' : ops.toList[j]? = some oj := by simpa using hj
              rw [hj'] at this
              simp only [Bool.or_eq_true, beq_iff_eq, hne', hun, false_or, Bool.false_eq_true] at this
              rcases this with this | this
              · obtain ⟨e, he, hb⟩ := Array.any_eq_true'.1 this
                simp only [Bool.and_eq_true, beq_iff_eq] at hb
                exact absurd hb.2 (hno e he hb.1)
              · exact this
          · rw [act_put, ← hR']
            exact anyx_sound hE hsel hI hQ n _ S' w hc' (hR' ▸ hI o (hmem i o ho) _ v hi) hs hk
        · exact h.elim
      · refine ⟨fun hr => absurd hr hne, fun i hir => ?_⟩
        have h' := allx_get h hir
        split at h'
        · rename_i o ho
          refine opg_step (ops := ops) hE (hget i o ho) hc hi (hI o (hmem i o ho)) h' ?_
          intro S' w' hc' hi' hs' hk
          exact anyx_sound hE hsel hI hQ n _ S' w' hc' hi' (hs.trans hs') hk
        · exact h'.elim

/-! ### Code -/
theorem havoc_get (u : Nat → Value) : ∀ (mods : List Nat) (R : List Value) (s : Nat), s ∉ mods → (havoc u mods R).getD s undef = R.getD s undef
  | [], _, _, _ => rfl
  | m :: mods, R, s, h => by
    simp only [List.mem_cons, not_or] at h
    show (havoc u mods (R.set m (u m))).getD s undef = _
    rw [havoc_get u mods _ s h.2, getD_set_ne _ _ _ _ h.1]
theorem havoc_len (u : Nat → Value) : ∀ (mods : List Nat) (R : List Value), (havoc u mods R).length = R.length
  | [], _ => rfl
  | m :: mods, R => by
    show (havoc u mods (R.set m (u m))).length = _
    rw [havoc_len u mods, List.length_set]

/-- Rows of the same length that agree but at the slots written: one is the other, laid over. -/
theorem havoc_eq {mods : List Nat} {R R' : List Value} (hl : R'.length = R.length) (hs : ∀ s, s ∉ mods → R'[s]? = R[s]?) : havoc (fun s => R'.getD s undef) mods R = R' := by
  have key : ∀ (mods : List Nat) (T : List Value), T.length = R'.length → (∀ s, T[s]? = R'[s]? ∨ s ∈ mods) → havoc (fun s => R'.getD s undef) mods T = R' := by
    intro mods
    induction mods with
    | nil =>
      intro T hT h
      apply List.ext_getElem? 
      intro s
      rcases h s with h | h
      · exact h
      · cases h
    | cons m mods ih =>
      intro T hT h
      show havoc _ mods (T.set m _) = R'
      refine ih _ (by simpa using hT) fun s => ?_
      by_cases hsm : s = m
      · subst hsm
        left
        by_cases hlt : s < R'.length
        · rw [List.getElem?_set_self (by omega)]
          simp [List.getD, hlt]
        · rw [List.getElem?_eq_none (by simp; omega), List.getElem?_eq_none (by omega)]
      · rcases h s with h | h
        · left; rw [List.getElem?_set_ne (Ne.symm hsm)]; exact h
        · right; simpa [hsm] using h
  refine key mods R hl.symm fun s => ?_
  by_cases h : s ∈ mods
  · exact .inr h
  · exact .inl (hs s h).symm

theorem tyLive_k : ∀ {ls : List (Nat × Nat)} {R : List Value} {k : Prop}, tyLive ls R k → k
  | [], _, _, h => h
  | (s, t) :: ls, R, k, h => by
    unfold tyLive at h
    split at h
    · exact tyLive_k h.2
    · rename_i g hg
      cases hv : tyV (tag t) (R.getD s undef) with
      | false => rw [hv] at h; exact h.elim
      | true => rw [hv, cond_true] at h; exact tyLive_k h
theorem set_self (R : List Value) (s : Nat) : R.set s (R.getD s undef) = R := by
  apply List.ext_getElem?
  intro i
  by_cases h : i = s
  · subst h
    by_cases hl : i < R.length
    · rw [List.getElem?_set_self hl]; simp [List.getD, hl]
    · rw [List.getElem?_eq_none (by simp; omega), List.getElem?_eq_none (by omega)]
  · rw [List.getElem?_set_ne (Ne.symm h)]
theorem setLive_self : ∀ {ls : List (Nat × Nat)} {R : List Value} {k : Prop} {p : List Value → Prop}, tyLive ls R k → setLive ls R p → p R
  | [], _, _, _, _, h => h
  | (s, t) :: ls, R, k, p, hk, h => by
    simp only [setLive] at h
    have key : ∀ v, R.getD s undef = v → setLive ls (R.set s v) p → setLive ls R p := by
      intro v hv hp
      rw [← hv, set_self] at hp
      exact hp
    unfold tyLive at hk
    unfold allOf at h
    split at hk
    · rename_i ht
      obtain ⟨⟨b, hb⟩, hk⟩ := hk
      rw [ht] at h
      exact setLive_self hk (key _ hb (h b))
    · cases hv : tyV (tag t) (R.getD s undef) with
      | false => rw [hv] at hk; exact hk.elim
      | true =>
        rw [hv, cond_true] at hk
        refine setLive_self hk ?_
        revert hv h
        generalize hg : tag t = g
        intro h hv
        unfold tyV at hv
        split at hv
        · rename_i n hr; exact key _ hr (h n)
        · rename_i n hr; exact key _ hr (h n)
        · rename_i n hr; exact key _ hr (h n)
        · rename_i n hr; exact key _ hr (h n)
        · rename_i n hr; exact key _ hr (h n)
        · rename_i a l c hr; exact key _ hr (h a l c)
        · rename_i a l hr; exact key _ hr (h a l)
        · cases hv

/-- What a piece of code leaves: the slots that it does not write are as they were. -/
def Post (w0 : World) (mods : List Nat) (R : List Value) (Q : Exit → St → Heap → Prop) (e : Exit) (a : Act) (w' : World) : Prop :=
  a.defers = [] ∧ ∃ S' : St, a.tmps = ⟨S'.R⟩ ∧ Con S' ∧ S'.R.length = R.length ∧ (∀ s, s ∉ mods → S'.R[s]? = R[s]?) ∧ Same w0 w' ∧ Q e S' w'.heap

theorem putR_len (R : List Value) (d : Option Nat) (v : Value) : (putR R d v).length = R.length := by
  cases d <;> simp [putR]
theorem putR_ne {R : List Value} {d : Option Nat} {v : Value} {s : Nat} (h : ∀ x, d = some x → x ≠ s) : (putR R d v)[s]? = R[s]? := by
  cases d with
  | none => rfl
  | some d => simp only [putR]; rw [List.getElem?_set_ne (h d rfl)]

theorem post_mono {w0 w1 : World} {mods mods' : List Nat} {R R1 : List Value} {Q Q' : Exit → St → Heap → Prop} {e : Exit} {a : Act} {w' : World}
    (h : Post w1 mods R1 Q e a w') (hs : Same w0 w1) (hl : R1.length = R.length) (hf : ∀ s, s ∉ mods' → R1[s]? = R[s]?) (hm : ∀ s, s ∈ mods → s ∈ mods') (hq : ∀ S' H', Con S' → Q e S' H' → Q' e S' H') :
    Post w0 mods' R Q' e a w' := by
  obtain ⟨h1, S', h2, h3, h4, h5, h6, h7⟩ := h
  exact ⟨h1, S', h2, h3, h4.trans hl, fun s hn => (h5 s (fun hx => hn (hm s hx))).trans (hf s hn), hs.trans h6, hq S' _ h3 h7⟩

theorem havoc_keep {S S' : St} {mods : List Nat} (hc : Con S) (_hl : S'.R.length = S.R.length) (hf : ∀ s, s ∉ mods → S'.R[s]? = S.R[s]?) : Con ⟨S'.R, keepB mods S.B⟩ :=
  con_keep hc mods fun s hs => by simp [List.getD, hf s hs]

theorem wpx_sound {P : Program} (hE : EqOK P) (hm : P.follows .mixedOrders = true) (A : Ann) : ∀ (c : Code) (cur : Nat) (Q : Exit → St → Heap → Prop) (S : St) (w : World),
    drawsB A c = true → Con S → wpx P A cur c Q S w.heap → c.wp P (Post w (dsts c) S.R Q) ⟨⟨S.R⟩, []⟩ w
  | .skip, cur, Q, S, w, _, hc, h => wp_skip ⟨rfl, S, rfl, hc, rfl, fun _ _ => rfl, Same.refl w, h⟩
  | .exit id, cur, Q, S, w, _, hc, h => wp_exit ⟨rfl, S, rfl, hc, rfl, fun _ _ => rfl, Same.refl w, h⟩
  | .ret, cur, Q, S, w, _, hc, h => wp_ret ⟨rfl, S, rfl, hc, rfl, fun _ _ => rfl, Same.refl w, h⟩
  | .region id ops draw, cur, Q, S, w, hd, hc, h => by
    simp only [wpx] at h
    have hI : ∀ o ∈ ops.toList, ∀ R v, (R.length = S.R.length ∧ ∀ s, s ∉ dstsOps ops.toList → R[s]? = S.R[s]?) → ((putR R o.dst v).length = S.R.length ∧ ∀ s, s ∉ dstsOps ops.toList → (putR R o.dst v)[s]? = S.R[s]?) := by
      intro o ho R v hi
      refine ⟨(putR_len _ _ _).trans hi.1, fun s hs => ?_⟩
      rw [putR_ne (fun x hx he => hs ?_)]
      · exact hi.2 s hs
      · subst he
        exact List.mem_filterMap.2 ⟨o, ho, hx⟩
    split at h
    · rename_i hr
      cases hdd : draw && !drawB ops with
      | true =>
        rw [hdd, cond_true] at h
        simp only [Bool.and_eq_true] at hdd
        obtain ⟨rfl, _⟩ := hdd
        have hsel : Region.noSelect ops = true := by simpa [drawsB, hr] using hd
        refine wp_region_any hm (anyP_any _ _ _ _ ?_)
        have := anyx_sound (w0 := w) hE (df := []) (Q := Post w (dsts (.region id ops true)) S.R Q) (Inv := fun R => R.length = S.R.length ∧ ∀ s, s ∉ dstsOps ops.toList → R[s]? = S.R[s]?) hsel hI
          (fun S' w' hc' hi' hs' hk => ⟨rfl, S', rfl, hc', hi'.1, hi'.2, hs', hk⟩) ops.toList.length (Array.replicate ops.toList.length false) S { w with drawn := w.drawn + 1 } hc ⟨rfl, fun _ _ => rfl⟩ ⟨rfl, rfl, rfl⟩ h
        simpa using this
      | false =>
        rw [hdd, cond_false] at h
        refine region_sound hE hm (Inv := fun R => R.length = S.R.length ∧ ∀ s, s ∉ dstsOps ops.toList → R[s]? = S.R[s]?) (fun hdr => ?_) hI hc ⟨rfl, fun _ _ => rfl⟩ ?_ h
        · simpa [hdr] using hdd
        · intro S' w' hc' hi' hs' hk
          exact ⟨rfl, S', rfl, hc', hi'.1, hi'.2, hs', hk⟩
    · rename_i ls hr
      obtain ⟨M, hraw, h⟩ := h
      cases draw with
      | false =>
        simp [drawsB, hr] at hd
      | true =>
        refine Code.wp_mono ?_ (hraw w rfl)
        rintro e a w' ⟨rfl, hdf, ho, hout, ht, hsz, hfr, hty⟩
        obtain ⟨⟨T⟩, df⟩ := a
        simp only at hdf hsz hfr hty
        subst hdf
        have hl : T.length = S.R.length := by simpa using hsz
        have hf' : ∀ s, s ∉ dstsOps ops.toList → T[s]? = S.R[s]? := hfr
        have h1 := h w'.heap (fun s => T.getD s undef)
        rw [havoc_eq hl hf'] at h1
        have h2 := setLive_self hty h1 (tyLive_k hty)
        exact ⟨rfl, ⟨T, keepB (dstsOps ops.toList) S.B⟩, rfl, havoc_keep (S' := ⟨T, []⟩) hc hl hf', hl, hf', ⟨ho, hout, ht⟩, h2⟩
  | .seq a b, cur, Q, S, w, hd, hc, h => by
    simp only [drawsB, Bool.and_eq_true] at hd
    simp only [wpx] at h
    split at h
    · have ha := wpx_sound hE hm A a cur _ S w hd.1 hc h
      refine wp_seq (Code.wp_mono ?_ ha)
      intro e x w' hp
      cases e with
      | normal =>
        obtain ⟨h1, S', h2, h3, h4, h5, h6, h7⟩ := hp
        obtain ⟨tm, df⟩ := x
        simp only at h1 h2
        subst h1 h2
        refine Code.wp_mono ?_ (wpx_sound hE hm A b cur Q S' w' hd.2 h3 h7)
        intro e x w'' hp
        exact post_mono hp h6 h4 (fun s hs => h5 s (fun hx => hs (by simp [dsts, hx]))) (fun s hs => by simp [dsts, hs]) (fun _ _ _ h => h)
      | _ => exact post_mono hp (Same.refl w) rfl (fun _ _ => rfl) (fun s hs => by simp [dsts, hs]) (fun _ _ _ h => h)
    · rename_i ls hr
      obtain ⟨M, h, hb⟩ := h
      have ha := wpx_sound hE hm A a cur _ S w hd.1 hc h
      refine wp_seq (Code.wp_mono ?_ ha)
      intro e x w' hp
      cases e with
      | normal =>
        obtain ⟨h1, S', h2, h3, h4, h5, h6, h7⟩ := hp
        obtain ⟨tm, df⟩ := x
        simp only at h1 h2
        subst h1 h2
        have hb' := hb w'.heap (fun s => S'.R.getD s undef)
        rw [havoc_eq h4 h5] at hb'
        have hb'' := setLive_self h7 hb' (tyLive_k h7)
        have hc' : Con ⟨S'.R, keepB (dsts a) S.B⟩ := havoc_keep hc h4 h5
        refine Code.wp_mono ?_ (wpx_sound hE hm A b cur Q ⟨S'.R, keepB (dsts a) S.B⟩ w' hd.2 hc' hb'')
        intro e x w'' hp
        exact post_mono hp h6 h4 (fun s hs => h5 s (fun hx => hs (by simp [dsts, hx]))) (fun s hs => by simp [dsts, hs]) (fun _ _ _ h => h)
      | _ => exact post_mono hp (Same.refl w) rfl (fun _ _ => rfl) (fun s hs => by simp [dsts, hs]) (fun _ _ _ h => h)
  | .cond c a b, cur, Q, S, w, hd, hc, h => by
    simp only [drawsB, Bool.and_eq_true] at hd
    simp only [wpx] at h
    have goA : ∀ S', S'.R = S.R → Con S' → wpx P A cur a Q S' w.heap → ∀ t : Bool, t = true → ev S c = .bool t → (Code.cond c a b).wp P (Post w (dsts (.cond c a b)) S.R Q) ⟨⟨S.R⟩, []⟩ w := by
      intro S' hR hc' hx t ht hev
      subst ht
      refine wp_cond_true (by rw [ev_eq]; exact hev) (Code.wp_mono ?_ (hR ▸ wpx_sound hE hm A a cur Q S' w hd.1 hc' hx))
      intro e x w' hp
      exact post_mono hp (Same.refl w) rfl (fun _ _ => rfl) (fun s hs => by simp [dsts, hs]) (fun _ _ _ h => h)
    have goB : ∀ S', S'.R = S.R → Con S' → wpx P A cur b Q S' w.heap → ∀ t : Bool, t = false → ev S c = .bool t → (Code.cond c a b).wp P (Post w (dsts (.cond c a b)) S.R Q) ⟨⟨S.R⟩, []⟩ w := by
      intro S' hR hc' hx t ht hev
      subst ht
      refine wp_cond_false (by rw [ev_eq]; exact hev) (Code.wp_mono ?_ (hR ▸ wpx_sound hE hm A b cur Q S' w hd.2 hc' hx))
      intro e x w' hp
      exact post_mono hp (Same.refl w) rfl (fun _ _ => rfl) (fun s hs => by simp [dsts, hs]) (fun _ _ _ h => h)
    split at h
    · rename_i q hk hv
      exact goA S rfl hc h q (kbo_ev hc hk hv) hv
    · rename_i q hk hv
      exact goB S rfl hc h q (kbo_ev hc hk hv) hv
    · rename_i t q hk hv
      have hv' : S.R.getD t undef = .bool q := hv
      cases q with
      | true => exact goA (S.know t true) rfl (con_know hc hv') (h.1 rfl) true rfl hv
      | false => exact goB (S.know t false) rfl (con_know hc hv') (h.2 rfl) false rfl hv
    · exact h.elim
  | .block id a, cur, Q, S, w, hd, hc, h => by
    simp only [wpx] at h
    refine wp_block (Code.wp_mono ?_ (wpx_sound hE hm A a id _ S w hd hc h))
    intro e x w' hp
    cases e with
    | exit j =>
      simp only [Exit.inBlock]
      by_cases hj : j = id
      · subst hj
        rw [if_pos rfl]
        obtain ⟨h1, S', h2, h3, h4, h5, h6, h7⟩ := hp
        simp at h7
        exact ⟨h1, S', h2, h3, h4, h5, h6, h7⟩
      · rw [if_neg hj]
        obtain ⟨h1, S', h2, h3, h4, h5, h6, h7⟩ := hp
        simp [hj] at h7
        exact ⟨h1, S', h2, h3, h4, h5, h6, h7⟩
    | _ => exact hp
  | .loop a, cur, Q, S, w, hd, hc, h => by
    simp only [wpx] at h
    split at h
    · exact h.elim
    · rename_i ls hl
      obtain ⟨J, μ, h0, h⟩ := h
      refine wp_loop (fun x w' => x.defers = [] ∧ ∃ T : List Value, x.tmps = ⟨T⟩ ∧ T.length = S.R.length ∧ (∀ s, s ∉ dsts a → T[s]? = S.R[s]?) ∧ Same w w' ∧ tyLive ls T (J (live ls T) w'.heap))
        (fun x w' => μ (live ls x.tmps.toList) w'.heap) ⟨rfl, S.R, rfl, rfl, fun _ _ => rfl, Same.refl w, h0⟩ ?_
      rintro x w' ⟨hdf, T, ht, hlen, hfr, hs, hj⟩
      obtain ⟨tm, df⟩ := x
      simp only at hdf ht
      subst hdf ht
      have hb := h w'.heap (fun s => T.getD s undef)
      rw [havoc_eq hlen hfr] at hb
      have hb' := setLive_self hj hb (tyLive_k hj)
      have hc' : Con ⟨T, keepB (dsts a) S.B⟩ := havoc_keep (S' := ⟨T, []⟩) hc hlen hfr
      refine Code.wp_mono ?_ (wpx_sound hE hm A a cur _ ⟨T, keepB (dsts a) S.B⟩ w' hd hc' hb')
      intro e x w'' hp
      cases e with
      | normal =>
        obtain ⟨h1, S', h2, h3, h4, h5, h6, h7⟩ := hp
        obtain ⟨tm, df⟩ := x
        simp only at h1 h2
        subst h1 h2
        exact ⟨⟨rfl, S'.R, rfl, h4.trans hlen, fun s hn => (h5 s hn).trans (hfr s hn), hs.trans h6, h7.1⟩, h7.2⟩
      | _ => exact post_mono hp hs hlen hfr (fun s hx => hx) (fun _ _ _ h => h)
  | .scope a, cur, Q, S, w, _, hc, h => h.elim
  | .label l, cur, Q, S, w, _, hc, h => h.elim
  | .goto l, cur, Q, S, w, _, hc, h => h.elim
  | .refuse r, cur, Q, S, w, _, hc, h => h.elim
  | .rangeFunc f ps x y, cur, Q, S, w, _, hc, h => h.elim

theorem resv_run {P : Program} {r : ResultVar} {S : St} {w : World} {K : Value → Prop} (h : resv P r S w.heap K) :
    ∃ v, ((match r with | .tmp t => pure ((⟨S.R⟩ : Array Value).getD t undef) | .cell a t => do loadVar t (← asAddr ((⟨S.R⟩ : Array Value).getD a undef))) : Sem Value).run P w = .ok v w ∧ K v := by
  have hg : ∀ t, (⟨S.R⟩ : Array Value).getD t undef = S.R.getD t undef := fun t => ev_eq S [] (.tmp t)
  cases r with
  | tmp t => exact ⟨_, by simp only [hg]; rfl, h⟩
  | cell a t =>
    simp only [resv] at h
    split at h
    · rename_i b p hv
      cases ht : tyB P t with
      | false => rw [ht] at h; exact h.elim
      | true =>
        rw [ht, cond_true] at h
        obtain ⟨v, h1, h2⟩ := run_loadx ht h
        exact ⟨v, by simp only [hg, hv]; simp [asAddr, h1 w (HExt.refl _)], h2⟩
    · exact h.elim

theorem results_run {P : Program} {fn : Func} {R : Value → Heap → Prop} {e : Exit} {S : St} {w : World} (he : e = .normal ∨ e = .ret) (h : postx P fn R e S w.heap) :
    ∃ v, (results fn ⟨S.R⟩).run P w = .ok v w ∧ R v w.heap := by
  have h' : (match fn.results.toList with
    | [] => R (.tuple #[]) w.heap
    | [r] => resv P r S w.heap fun v => R v w.heap
    | [r, s] => resv P r S w.heap fun v => resv P s S w.heap fun u => R (.tuple #[v, u]) w.heap
    | [r, s, t] => resv P r S w.heap fun v => resv P s S w.heap fun u => resv P t S w.heap fun x => R (.tuple #[v, u, x]) w.heap
    | _ => False) := by
    rcases he with rfl | rfl <;> exact h
  have arr : ∀ l, fn.results.toList = l → fn.results = l.toArray := fun l hl => by rw [← hl]
  split at h'
  · rename_i hr
    exact ⟨_, by simp [results, arr _ hr], h'⟩
  · rename_i r hr
    obtain ⟨v, h1, h2⟩ := resv_run h'
    refine ⟨v, ?_, h2⟩
    simp [results, arr _ hr]
    cases r <;> simpa using h1
  · rename_i r s hr
    obtain ⟨v, h1, h2⟩ := resv_run h'
    obtain ⟨u, h3, h4⟩ := resv_run h2
    refine ⟨_, ?_, h4⟩
    simp [results, arr _ hr]
    cases r <;> cases s <;> simp at h1 h3 ⊢ <;> simp [h1, h3]
  · rename_i r s t hr
    obtain ⟨v, h1, h2⟩ := resv_run h'
    obtain ⟨u, h3, h4⟩ := resv_run h2
    obtain ⟨x, h5, h6⟩ := resv_run h4
    refine ⟨_, ?_, h6⟩
    simp [results, arr _ hr]
    cases r <;> cases s <;> cases t <;> simp at h1 h3 h5 ⊢ <;> simp [h1, h3, h5]
  · exact h'.elim

theorem hcalls_any {P : Program} (hE : EqOK P) {f : FuncId} {fn : Func} {args : List Value} {A : Ann} {H : Heap} {R : Value → Heap → Prop} (hf : P.funcs[f]? = some fn) (hg : goodB P A fn = true)
    (h : wpx P A 0 (bodyOf fn) (postx P fn R) ⟨initR args fn.ntmps, []⟩ H) : HCalls P f ⟨args⟩ H R := by
  intro w hw
  subst hw
  simp only [goodB, Bool.and_eq_true] at hg
  obtain ⟨⟨hb, hm⟩, hd⟩ := hg
  obtain ⟨c, hb⟩ := Option.isSome_iff_exists.1 hb
  have hbody : bodyOf fn = c := by simp [bodyOf, hb]
  rw [hbody] at h hd
  have := wpx_sound hE hm A c 0 (postx P fn R) ⟨initR args fn.ntmps, []⟩ w hd (fun t b q hl => by cases hl) h
  refine calls_of_wp hf hb (Code.wp_mono ?_ (by
    have e : (⟨args⟩ : Array Value) ++ Array.replicate (fn.ntmps - (⟨args⟩ : Array Value).size) undef = ⟨initR args fn.ntmps⟩ := by
      apply Array.ext'
      simp [initR]
    rw [e]
    exact this))
  intro e a w' hp
  obtain ⟨h1, S', h2, h3, h4, h5, h6, h7⟩ := hp
  obtain ⟨tm, df⟩ := a
  simp only at h1 h2
  subst h1 h2
  have key : e = .normal ∨ e = .ret → bodyPost P fn (fun e w' => ∃ v, e = .returned v ∧ R v w'.heap ∧ w'.os = w.os ∧ w'.output = w.output ∧ w'.tape = w.tape) e ⟨⟨S'.R⟩, []⟩ w' := by
    intro he
    obtain ⟨v, hr, hR⟩ := results_run he h7
    rcases he with rfl | rfl <;> exact ⟨rfl, v, hr, v, rfl, hR, h6.os, h6.output, h6.tape⟩
  cases e with
  | normal => exact key (.inl rfl)
  | ret => exact key (.inr rfl)
  | _ => exact h7.elim

theorem HCalls.mono {P : Program} {f : FuncId} {args : Array Value} {H : Heap} {R R' : Value → Heap → Prop} (h : HCalls P f args H R) (hr : ∀ v H', R v H' → R' v H') : HCalls P f args H R' :=
  fun w hw => (h w hw).mono fun _ _ ⟨v, h1, h2, h3⟩ => ⟨v, h1, hr _ _ h2, h3⟩

/-- An equation between statements, looked at by the kernel alone. -/
theorem eq_mp_k {a b : Prop} (h : a = b) (ha : a) : b := h ▸ ha

end Go.Proofs.Qxb6500272aGreat
