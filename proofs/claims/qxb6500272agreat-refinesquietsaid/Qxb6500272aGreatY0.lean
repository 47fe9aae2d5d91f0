/-
  Plain laws, values: the law of Cell and Reads.
-/
import Derived.Test.Qxb6500272aGreatX9
namespace Go.Proofs.Qxb6500272aGreat
open Go
set_option linter.unusedVariables false
set_option linter.unusedSimpArgs false
structure EnvOk (env : List ValT) : Prop where
  len : env.length = 24
  ok : ∀ x ∈ env, Okv x
theorem s127_ok {n : Nat} (hn : 1000 ≤ n) {S : VS} (hS : VIdle S) {raw : List UInt8} (h1 : 1 ≤ raw.length) :
    ((PT (raw.drop 1)).err ≠ 0 → ∃ S', s127 n S raw = some (S', false) ∧ VIdle S') ∧
    ((PT (raw.drop 1)).err = 0 → ∀ (w : Nat) (P : List InstrT), w + 1 = (PT (raw.drop 1)).nodes.length → CV (PT (raw.drop 1)).nodes 0 w P →
      ∃ S' F, s127 n S raw = some (S', true) ∧ FIdle F ∧ CmpTo { S with f := F, start := 48, cells := 0 } P 0 w S') := by
  obtain ⟨F, e1, hF, _⟩ := s115_ok n (by omega) S.f (raw.drop 1) hS.f
  have e1 : s115 n S.f (List.drop (Int.toNat (1 : Int)) raw) = some (F, PT (raw.drop 1)) := e1
  constructor
  · intro he
    refine ⟨{ S with f := F }, ?_, ⟨hF, hS.code, hS.start, hS.owner, hS.st, hS.top, hS.fo, hS.deep⟩⟩
    unfold s127
    rw [ckF (by omega), bindT e1, if_neg he]
  · intro he w P hw hP
    have hT := PT_ok he
    obtain ⟨S', e2, c⟩ := s153_ok hn hw hT.bd.1 hP { S with f := F } hS.code hS.owner
    refine ⟨S', F, ?_, hF, c⟩
    unfold s127
    rw [ckF (by omega), bindT e1, if_pos he, ckF (show 0 < (PT (raw.drop 1)).nodes.length by omega), bindT e2]
theorem l133_ok {n : Nat} {S : VS} {raw : List UInt8} {env : List ValT} (he : EnvOk env) {r : Option (VS × ValT × Int)} (h : ∀ rec, l133_0_st n S raw env 24 rec 24 = r) : ∀ (m i g : Nat), i + m = 24 → m < g → l133_0 n S raw env 24 g (i : Int) = r := by
  have hlen := he.len
  intro m
  induction m with
  | zero =>
    intro i g h1 h2
    obtain ⟨g, rfl⟩ : ∃ g', g = g' + 1 := ⟨g - 1, by omega⟩
    have : i = 24 := by omega
    subst this
    exact h _
  | succ m ih =>
    intro i g h1 h2
    obtain ⟨g, rfl⟩ : ∃ g', g = g' + 1 := ⟨g - 1, by omega⟩
    show l133_0_st n S raw env 24 (l133_0 n S raw env 24 g) (i : Int) = _
    unfold l133_0_st
    rw [if_pos (by omega), bindT (getT (x := env[i]'(by omega)) (by omega) (by omega) (by rw [Int.toNat_natCast]; exact getL _))]
    have : s155 (env[i]'(by omega)) = true := he.ok _ (List.getElem_mem _)
    rw [if_pos this, ckF (by constructor <;> omega)]
    exact ih (i + 1) g (by omega) (by omega)
theorem l137_ok {n : Nat} {S : VMS} {raw : List UInt8} {env : List ValT} (he : EnvOk env) {r : Option (VMS × ValT × Int)} (h : ∀ rec, l137_0_st n S raw env 24 rec 24 = r) : ∀ (m i g : Nat), i + m = 24 → m < g → l137_0 n S raw env 24 g (i : Int) = r := by
  have hlen := he.len
  intro m
  induction m with
  | zero =>
    intro i g h1 h2
    obtain ⟨g, rfl⟩ : ∃ g', g = g' + 1 := ⟨g - 1, by omega⟩
    have : i = 24 := by omega
    subst this
    exact h _
  | succ m ih =>
    intro i g h1 h2
    obtain ⟨g, rfl⟩ : ∃ g', g = g' + 1 := ⟨g - 1, by omega⟩
    show l137_0_st n S raw env 24 (l137_0 n S raw env 24 g) (i : Int) = _
    unfold l137_0_st
    rw [if_pos (by omega), bindT (getT (x := env[i]'(by omega)) (by omega) (by omega) (by rw [Int.toNat_natCast]; exact getL _))]
    have : s155 (env[i]'(by omega)) = true := he.ok _ (List.getElem_mem _)
    rw [if_pos this, ckF (by constructor <;> omega)]
    exact ih (i + 1) g (by omega) (by omega)
/-- What Cell and Reads are on a text. -/
structure CellLaw (raw : List UInt8) (rd : BitVec 32) (cv : List ValT → ValT) : Prop where
  in24 : In24 rd
  reads : ∀ n, 1000 ≤ n → ∀ S, VIdle S → ∃ S', s107 n S raw = some (S', rd, 0) ∧ VIdle S'
  readsM : ∀ n, 1000 ≤ n → ∀ S, ∃ S', s159 n S raw = some (S', rd, 0)
  okv : ∀ env, EnvOk env → Okv (cv env)
  cell : ∀ env, EnvOk env → ∀ n, 1000 ≤ n → ∀ S, VIdle S → ∃ S', s133 n S raw env 24 = some (S', cv env, 0) ∧ VIdle S'
  cellM : ∀ env, EnvOk env → ∀ n, 1000 ≤ n → ∀ S, ∃ S', s137 n S raw env 24 = some (S', cv env, 0)
  dep : ∀ env env', EnvOk env → EnvOk env' → (∀ c, c < 24 → rd.getLsbD c = true → env[c]? = env'[c]?) → cv env = cv env'
theorem cell_ok (raw : List UInt8) (hraw : raw.length ≤ 40) : ∃ rd cv, CellLaw raw rd cv := by
  have e24 : (((24 : Nat) : Int)) = 24 := rfl
  by_cases h0 : raw = [] ∨ ¬ ((raw.getD (Int.toNat (0 : Int)) 0).toNat : Int) = 61
  · obtain ⟨p, op, e⟩ := plain_ok raw hraw
    have hcases : ((raw == ([] : List UInt8)) = true) ∨ (¬ (raw == ([] : List UInt8)) = true ∧ 0 < raw.length ∧ ¬ ((raw.getD (Int.toNat (0 : Int)) 0).toNat : Int) = 61) := by
      by_cases hn : raw = []
      · left; simpa using hn
      · right
        refine ⟨by simpa using hn, List.length_pos_iff.2 hn, ?_⟩
        rcases h0 with h | h
        · exact absurd h hn
        · exact h
    refine ⟨0, fun _ => p, in24_0, ?_, ?_, fun _ _ => op, ?_, ?_, fun _ _ _ _ _ => rfl⟩
    · intro n hn S hS
      refine ⟨S, ?_, hS⟩
      unfold s107
      rw [if_neg (by omega)]
      rcases hcases with h | ⟨h1, h2, h3⟩
      · rw [if_pos h]
      · rw [if_neg h1, ckF (by omega), if_neg h3]
    · intro n hn S
      refine ⟨{ S with reads := (IntKind.wrap .i64 (S.reads + (1 : Int))) }, ?_⟩
      unfold s159
      rw [if_neg (by omega)]
      rcases hcases with h | ⟨h1, h2, h3⟩
      · rw [if_pos h]
      · rw [if_neg h1, ckF (by omega), if_neg h3]
    · intro env he n hn S hS
      refine ⟨S, ?_, hS⟩
      unfold s133
      rw [if_neg (by omega), if_pos e24]
      refine l133_ok he ?_ 24 0 n (by omega) (by omega)
      intro rec
      unfold l133_0_st
      rw [if_neg (by decide)]
      rcases hcases with h | ⟨h1, h2, h3⟩
      · rw [if_pos h, bindT (e n hn)]
      · rw [if_neg h1, ckF (by omega), if_neg h3, bindT (e n hn)]
    · intro env he n hn S
      refine ⟨{ S with cells := (IntKind.wrap .i64 (S.cells + (1 : Int))) }, ?_⟩
      unfold s137
      rw [if_neg (by omega), if_pos e24]
      refine l137_ok he ?_ 24 0 n (by omega) (by omega)
      intro rec
      unfold l137_0_st
      rw [if_neg (by decide)]
      rcases hcases with h | ⟨h1, h2, h3⟩
      · rw [if_pos h, bindT (e n hn)]
      · rw [if_neg h1, ckF (by omega), if_neg h3, bindT (e n hn)]
  · have hne : ¬ raw = [] := fun h => h0 (Or.inl h)
    have h61 : ((raw.getD (Int.toNat (0 : Int)) 0).toNat : Int) = 61 := by
      by_cases h : ((raw.getD (Int.toNat (0 : Int)) 0).toNat : Int) = 61
      · exact h
      · exact absurd (Or.inr h) h0
    have hl : 0 < raw.length := List.length_pos_iff.2 hne
    have hb : ¬ (raw == ([] : List UInt8)) = true := by simpa using hne
    have e120 : ∀ n, 1000 ≤ n → ∀ S : FMS, ∃ S', s120 n S (List.drop (Int.toNat (1 : Int)) raw) = some (S', PT (raw.drop 1)) := fun n hn S => ⟨_, s120_ok n hn S (raw.drop 1)⟩
    by_cases hE : (PT (raw.drop 1)).err = 0
    · have hT := PT_ok hE
      obtain ⟨w, P, r1, r2, r3, r4⟩ := tree_prog hT
      have hpos : 0 < (PT (raw.drop 1)).nodes.length := by omega
      obtain ⟨cv, hcv⟩ : ∃ cv : List ValT → ValT, ∀ env, EnvOk env → Okv (cv env) ∧ ValAt (PT (raw.drop 1)).nodes env w (cv env) ∧ Run env P 0 [cv env] [] := by
        have : ∀ env, ∃ x, EnvOk env → Okv x ∧ ValAt (PT (raw.drop 1)).nodes env w x ∧ Run env P 0 [x] [] := by
          intro env
          by_cases h : EnvOk env
          · obtain ⟨x, q⟩ := r3.run env h.len h.ok
            exact ⟨x, fun _ => q⟩
          · exact ⟨⟨0, 0, []⟩, fun h' => absurd h' h⟩
        exact ⟨fun env => Classical.choose (this env), fun env h => Classical.choose_spec (this env) h⟩
      have hrd : orI P = rdL (PT (raw.drop 1)).nodes := by rw [r3.reads, r4]
      refine ⟨orI P, cv, by rw [hrd]; exact rdL_in _, ?_, ?_, fun env h => (hcv env h).1, ?_, ?_, ?_⟩
      · intro n hn S hS
        obtain ⟨S', F, e1, hF, c⟩ := (s127_ok hn hS (by omega)).2 hE w P r2 r3
        have hc : S'.cells = orI P ∧ VIdle { S' with start := 48 } := by
          obtain ⟨C, O, rfl, c2, c3, c4, c5⟩ := c
          refine ⟨?_, hF, c2, rfl, c3, hS.st, hS.top, hS.fo, hS.deep⟩
          show (0 : BitVec 32) ||| orI P = orI P
          simp
        refine ⟨{ S' with start := 48 }, ?_, hc.2⟩
        unfold s107
        rw [if_neg (by omega), if_neg hb, ckF (by omega), if_pos h61, bindT e1, if_pos rfl]
        exact congrArg (fun z => some (({ S' with start := 48 } : VS), z, (0 : Int))) hc.1
      · intro n hn S
        obtain ⟨F, e1⟩ := e120 n hn S.f
        refine ⟨{ S with f := F, reads := (IntKind.wrap .i64 (S.reads + (1 : Int))) }, ?_⟩
        unfold s159
        rw [if_neg (by omega), if_neg hb, ckF (by omega), if_pos h61, ckF (by omega), bindT e1, if_pos hE, ckF hpos]
        have : s203 n (PT (raw.drop 1)) = some (orI P) := by
          have := l203_ok hn (PT (raw.drop 1)) hT.bd.1 (PT (raw.drop 1)).nodes.length 0 n 0 (by omega) (by have := hT.bd.1; omega)
          rw [hrd]
          refine this.trans ?_
          simp
        rw [bindT this]
      · intro env he n hn S hS
        obtain ⟨S1, F, e1, hF, c⟩ := (s127_ok hn hS (by omega)).2 hE w P r2 r3
        have hPl : P.length ≤ 48 := by have := r3.len; have := hT.bd.1; omega
        have hst : S1.start = (48 : Int) - P.length := c.fields.2.2.1
        have hcl := c.fields.1
        have hol := c.fields.2.1
        have hrest : Rdy S1 0 0 ∧ S1.f = F := by
          obtain ⟨C, O, rfl, c2, c3, c4, c5⟩ := c
          exact ⟨⟨hS.top, hS.deep, hS.st, hS.fo⟩, rfl⟩
        have hdrop : S1.code.drop (48 - P.length) = P := by
          obtain ⟨C, O, rfl, c2, c3, c4, c5⟩ := c
          have h48 : ((48 : Int) - (P.length : Int)).toNat = 48 - P.length := by omega
          have := c4
          simp only [h48] at this
          refine this.trans ?_
          rw [show S.code.drop (Int.toNat 48) = [] from List.drop_eq_nil_of_le (by rw [hS.code]; decide), List.append_nil]
        obtain ⟨S2, e2, rt⟩ := (hcv env he).2.2 n hn S1 0 0 hrest.1 (Nat.le_refl _) (Nat.le_refl _)
        have hloop := run_loop n env P n (48 - P.length) S1 S2 hdrop hcl (by omega) (by omega) e2
        have hx := rt.at (i := 0) rfl
        have hr2 : Rdy { S2 with start := (48 : Int) } (0 + 1) 0 := ⟨rt.rdy.top, rt.rdy.deep, rt.rdy.st, rt.rdy.fo⟩
        have hpop := s202_ok (x := cv env) hr2 (by omega) hx
        have h157 : s157 n S1 env 24 = some ({ S2 with start := (48 : Int), top := ((0 : Nat) : Int) }, cv env) := by
          unfold s157
          rw [hst, show (48 : Int) - (P.length : Int) = ((48 - P.length : Nat) : Int) by omega, hloop, bindT hpop]
        refine ⟨{ S2 with start := (48 : Int), top := ((0 : Nat) : Int) }, ?_, ?_⟩
        · unfold s133
          rw [if_neg (by omega), if_pos e24]
          refine l133_ok he ?_ 24 0 n (by omega) (by omega)
          intro rec
          unfold l133_0_st
          rw [if_neg (by decide), if_neg hb, ckF (by omega), if_pos h61, bindT e1, if_pos rfl, bindT h157]
        · obtain ⟨st, fo, rfl, a1, a2, a3, a4, a5, a6⟩ := rt
          exact ⟨by rw [← hrest.2] at hF; exact hF, hcl, rfl, hol, a1, rfl, a2, rfl⟩
      · intro env he n hn S
        obtain ⟨F, e1⟩ := e120 n hn S.f
        refine ⟨{ S with f := F, cells := (IntKind.wrap .i64 (S.cells + (1 : Int))) }, ?_⟩
        unfold s137
        rw [if_neg (by omega), if_pos e24]
        refine l137_ok he ?_ 24 0 n (by omega) (by omega)
        intro rec
        unfold l137_0_st
        rw [if_neg (by decide), if_neg hb, ckF (by omega), if_pos h61, ckF (by omega), bindT e1, if_pos hE, ckF hpos]
        have : s162 n (PT (raw.drop 1)) env 24 = some (cv env) := by
          unfold s162
          rw [r1]
          exact bindR ((hcv env he).2.1 n n hn (by have := hT.bd.1; omega))
        rw [bindT this]
      · intro env env' he he' h
        exact run_env r3.wf h (hcv env he).2.2 (hcv env' he').2.2
    · refine ⟨0, fun _ => s131 1, in24_0, ?_, ?_, fun _ _ => okv_err (by decide), ?_, ?_, fun _ _ _ _ _ => rfl⟩
      · intro n hn S hS
        obtain ⟨S', e1, hS'⟩ := (s127_ok hn hS (by omega)).1 hE
        refine ⟨S', ?_, hS'⟩
        unfold s107
        rw [if_neg (by omega), if_neg hb, ckF (by omega), if_pos h61, bindT e1, if_neg (by simp)]
      · intro n hn S
        obtain ⟨F, e1⟩ := e120 n hn S.f
        refine ⟨{ S with f := F, reads := (IntKind.wrap .i64 (S.reads + (1 : Int))) }, ?_⟩
        unfold s159
        rw [if_neg (by omega), if_neg hb, ckF (by omega), if_pos h61, ckF (by omega), bindT e1, if_neg hE]
      · intro env he n hn S hS
        obtain ⟨S', e1, hS'⟩ := (s127_ok hn hS (by omega)).1 hE
        refine ⟨S', ?_, hS'⟩
        unfold s133
        rw [if_neg (by omega), if_pos e24]
        refine l133_ok he ?_ 24 0 n (by omega) (by omega)
        intro rec
        unfold l133_0_st
        rw [if_neg (by decide), if_neg hb, ckF (by omega), if_pos h61, bindT e1, if_neg (by simp)]
      · intro env he n hn S
        obtain ⟨F, e1⟩ := e120 n hn S.f
        refine ⟨{ S with f := F, cells := (IntKind.wrap .i64 (S.cells + (1 : Int))) }, ?_⟩
        unfold s137
        rw [if_neg (by omega), if_pos e24]
        refine l137_ok he ?_ 24 0 n (by omega) (by omega)
        intro rec
        unfold l137_0_st
        rw [if_neg (by decide), if_neg hb, ckF (by omega), if_pos h61, ckF (by omega), bindT e1, if_neg hE]
/-- The cells that a text reads; what it is worth. -/
def rdOf (raw : List UInt8) : BitVec 32 :=
  match s159 1000 s63 raw with
  | some r => r.2.1
  | none => 0
def cvOf (raw : List UInt8) (env : List ValT) : ValT :=
  match s137 1000 s63 raw env 24 with
  | some r => r.2.1
  | none => ⟨0, 0, []⟩
theorem cellLaw {raw : List UInt8} (h : raw.length ≤ 40) : CellLaw raw (rdOf raw) (cvOf raw) := by
  obtain ⟨rd, cv, L⟩ := cell_ok raw h
  have e : rdOf raw = rd := by
    obtain ⟨S', e⟩ := L.readsM 1000 (Nat.le_refl _) s63
    unfold rdOf
    rw [e]
  have f : ∀ env, EnvOk env → cvOf raw env = cv env := by
    intro env he
    obtain ⟨S', e⟩ := L.cellM env he 1000 (Nat.le_refl _) s63
    unfold cvOf
    rw [e]
  rw [e]
  exact ⟨L.in24, L.reads, L.readsM, fun env he => by rw [f env he]; exact L.okv env he, fun env he => by rw [f env he]; exact L.cell env he, fun env he => by rw [f env he]; exact L.cellM env he,
    fun env env' he he' h => by rw [f env he, f env' he']; exact L.dep env env' he he' h⟩
end Go.Proofs.Qxb6500272aGreat
