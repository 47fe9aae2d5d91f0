/-
  Plain laws, the parser: the check of a tree (span, links, TreeOK) and lawful trees.
-/
import Derived.Test.Qxb6500272aGreatL7
namespace Go.Proofs.Qxb6500272aGreat
open Go
set_option linter.unusedVariables false
set_option linter.unusedSimpArgs false

theorem Lw.argc {ns : List NodeT} {k : Option Int} {r : Bool} {lo v : Nat} (h : Lw ns k r lo v) : ∀ n, k = some n → 1 ≤ n ∧ n ≤ v := by
  induction h using Lw.ind with
  | num | tru | ref | err | rng | neg | bin | call => intro n hn; cases hn
  | one h1 h2 h3 h4 h5 _ ih => intro n hn; injection hn with hn; omega
  | more h1 h2 h3 h4 h5 h6 l1 l2 ih1 ih2 =>
    intro n hn
    injection hn with hn
    have := ih2 _ rfl
    have := l1.le
    omega
theorem Lw.span {ns : List NodeT} (hl : ns.length ≤ 1000) (n_ : Nat) {k : Option Int} {r : Bool} {lo v : Nat} (h : Lw ns k r lo v) : ∀ f, v < f →
    (k = none → (rc181 n_ f).1 ns ns.length (v : Int) r = some (lo : Int)) ∧ (∀ n, k = some n → (rc181 n_ f).2 ns ns.length (v : Int) n r = some (lo : Int)) := by
  have hv : ∀ {v : Nat} {x : NodeT}, ns[v]? = some x → v < ns.length := by
    intro v x h
    rcases Nat.lt_or_ge v ns.length with h2 | h2
    · exact h2
    · rw [List.getElem?_eq_none h2] at h; cases h
  induction h using Lw.ind with
  | @num r v x h1 h2 h3 h4 h5 =>
    intro f hf
    obtain ⟨f, rfl⟩ : ∃ f', f = f' + 1 := ⟨f - 1, by omega⟩
    have hvl := hv h1
    refine ⟨fun _ => ?_, fun n hn => by cases hn⟩
    show s181_b n_ (rc181 n_ f).1 (rc181 n_ f).2 ns ns.length (v : Int) r = _
    unfold s181_b
    rw [if_neg (by omega), if_neg (by omega), bindT (getT (x := x) (by omega) (by omega) (by rw [Int.toNat_natCast]; exact h1)), if_pos ((eqNode _ _).2 h2), if_pos h3, if_neg (by omega), if_neg (by omega)]
  | @tru r v x h1 h2 h3 h4 h5 =>
    intro f hf
    obtain ⟨f, rfl⟩ : ∃ f', f = f' + 1 := ⟨f - 1, by omega⟩
    have hvl := hv h1
    refine ⟨fun _ => ?_, fun n hn => by cases hn⟩
    show s181_b n_ (rc181 n_ f).1 (rc181 n_ f).2 ns ns.length (v : Int) r = _
    unfold s181_b
    rw [if_neg (by omega), if_neg (by omega), bindT (getT (x := x) (by omega) (by omega) (by rw [Int.toNat_natCast]; exact h1)), if_pos ((eqNode _ _).2 h2), if_neg (by omega), if_pos h3, if_neg (by omega), if_neg (by omega)]
  | @ref r v x h1 h2 h3 =>
    intro f hf
    obtain ⟨f, rfl⟩ : ∃ f', f = f' + 1 := ⟨f - 1, by omega⟩
    have hvl := hv h1
    refine ⟨fun _ => ?_, fun n hn => by cases hn⟩
    show s181_b n_ (rc181 n_ f).1 (rc181 n_ f).2 ns ns.length (v : Int) r = _
    unfold s181_b
    rw [if_neg (by omega), if_neg (by omega), bindT (getT (x := x) (by omega) (by omega) (by rw [Int.toNat_natCast]; exact h1)), if_pos ((eqNode _ _).2 h2), if_neg (by omega), if_neg (by omega), if_pos h3]
  | @err r v x h1 h2 h3 =>
    intro f hf
    obtain ⟨f, rfl⟩ : ∃ f', f = f' + 1 := ⟨f - 1, by omega⟩
    have hvl := hv h1
    refine ⟨fun _ => ?_, fun n hn => by cases hn⟩
    show s181_b n_ (rc181 n_ f).1 (rc181 n_ f).2 ns ns.length (v : Int) r = _
    unfold s181_b
    rw [if_neg (by omega), if_neg (by omega), bindT (getT (x := x) (by omega) (by omega) (by rw [Int.toNat_natCast]; exact h1)), if_pos ((eqNode _ _).2 h2), if_neg (by omega), if_neg (by omega), if_neg (by omega), if_pos h3]
  | @rng v x h1 h2 h3 =>
    intro f hf
    obtain ⟨f, rfl⟩ : ∃ f', f = f' + 1 := ⟨f - 1, by omega⟩
    have hvl := hv h1
    refine ⟨fun _ => ?_, fun n hn => by cases hn⟩
    show s181_b n_ (rc181 n_ f).1 (rc181 n_ f).2 ns ns.length (v : Int) true = _
    unfold s181_b
    rw [if_neg (by omega), if_neg (by omega), bindT (getT (x := x) (by omega) (by omega) (by rw [Int.toNat_natCast]; exact h1)), if_pos ((eqNode _ _).2 h2), if_neg (by omega), if_neg (by omega), if_neg (by omega), if_neg (by omega), if_pos h3, if_pos rfl]
  | @neg r v lo x h1 h2 h3 h4 h5 ih =>
    intro f hf
    obtain ⟨f, rfl⟩ : ∃ f', f = f' + 1 := ⟨f - 1, by omega⟩
    have hvl := hv h1
    refine ⟨fun _ => ?_, fun n hn => by cases hn⟩
    show s181_b n_ (rc181 n_ f).1 (rc181 n_ f).2 ns ns.length ((v + 1 : Nat) : Int) r = _
    unfold s181_b
    rw [if_neg (by omega), if_neg (by omega), bindT (getT (x := x) (by omega) (by omega) (by rw [Int.toNat_natCast]; exact h1)), if_pos ((eqNode _ _).2 h2), if_neg (by omega), if_neg (by omega), if_neg (by omega), if_neg (by omega), if_neg (by omega), if_pos h3, ckF (by constructor <;> omega), if_pos (by omega), h4, bindT ((ih f (by omega)).1 rfl)]
  | @bin r v lo a x h1 h2 h3 h4 h5 h6 h7 l1 l2 ih1 ih2 =>
    intro f hf
    obtain ⟨f, rfl⟩ : ∃ f', f = f' + 1 := ⟨f - 1, by omega⟩
    have hvl := hv h1
    have := l1.le
    refine ⟨fun _ => ?_, fun n hn => by cases hn⟩
    show s181_b n_ (rc181 n_ f).1 (rc181 n_ f).2 ns ns.length ((v + 1 : Nat) : Int) r = _
    unfold s181_b
    rw [if_neg (by omega), if_neg (by omega), bindT (getT (x := x) (by omega) (by omega) (by rw [Int.toNat_natCast]; exact h1)), if_pos ((eqNode _ _).2 h2), if_neg (by omega), if_neg (by omega), if_neg (by omega), if_neg (by omega), if_neg (by omega), if_neg (by omega), if_pos h3, if_neg (by omega), if_neg (by omega), ckF (by constructor <;> omega), if_pos (by omega), h6, bindT ((ih1 f (by omega)).1 rfl), if_neg (by omega), ckF (by constructor <;> omega), if_pos (by omega), h7, bindT ((ih2 f (by omega)).1 rfl)]
  | @call r v lo x h1 h2 h3 h4 h5 l1 ih =>
    intro f hf
    obtain ⟨f, rfl⟩ : ∃ f', f = f' + 1 := ⟨f - 1, by omega⟩
    have hvl := hv h1
    refine ⟨fun _ => ?_, fun n hn => by cases hn⟩
    show s181_b n_ (rc181 n_ f).1 (rc181 n_ f).2 ns ns.length ((v + 1 : Nat) : Int) r = _
    unfold s181_b
    rw [if_neg (by omega), if_neg (by omega), bindT (getT (x := x) (by omega) (by omega) (by rw [Int.toNat_natCast]; exact h1)), if_pos ((eqNode _ _).2 h2), if_neg (by omega), if_neg (by omega), if_neg (by omega), if_neg (by omega), if_neg (by omega), if_neg (by omega), if_neg (by omega), if_pos h3, if_pos h4, ckF (by constructor <;> omega), if_pos (by omega), h5, bindT ((ih f (by omega)).2 _ rfl)]
  | @one r v lo x h1 h2 h3 h4 h5 l1 ih =>
    intro f hf
    obtain ⟨f, rfl⟩ : ∃ f', f = f' + 1 := ⟨f - 1, by omega⟩
    have hvl := hv h1
    refine ⟨(fun hn => by cases hn), fun n hn => ?_⟩
    injection hn with hn
    subst hn
    show s211_b n_ (rc181 n_ f).1 (rc181 n_ f).2 ns ns.length ((v + 1 : Nat) : Int) 1 r = _
    unfold s211_b
    rw [if_neg (by omega), if_neg (by omega), bindT (getT (x := x) (by omega) (by omega) (by rw [Int.toNat_natCast]; exact h1)), if_pos h3, ckF (by constructor <;> omega), if_pos (by omega), if_pos ((eqNode _ _).2 h2), h4, bindT ((ih f (by omega)).1 rfl), if_neg (by omega), if_pos rfl, if_pos h5]
  | @more r v lo a n x h1 h2 h3 h4 h5 h6 l1 l2 ih1 ih2 =>
    intro f hf
    obtain ⟨f, rfl⟩ : ∃ f', f = f' + 1 := ⟨f - 1, by omega⟩
    have hvl := hv h1
    have := l1.le
    refine ⟨(fun hn => by cases hn), fun n' hn => ?_⟩
    injection hn with hn
    subst hn
    have hac := l2.argc _ rfl
    show s211_b n_ (rc181 n_ f).1 (rc181 n_ f).2 ns ns.length ((v + 1 : Nat) : Int) n r = _
    unfold s211_b
    rw [if_neg (by omega), if_neg (by omega), bindT (getT (x := x) (by omega) (by omega) (by rw [Int.toNat_natCast]; exact h1)), if_pos h3, ckF (by constructor <;> omega), if_pos (by omega), if_pos ((eqNode _ _).2 h2), h5, bindT ((ih1 f (by omega)).1 rfl), if_neg (by omega), if_neg h4, ckF (by constructor <;> omega), if_pos (by omega), ckF (by constructor <;> omega), h6, bindT ((ih2 f (by omega)).2 _ rfl)]
/-- A tree as Parse makes it. -/
structure TreeOK (t : TreeV) : Prop where
  err : t.err = 0
  pos : t.pos = 0
  bd : Bd t.nodes
  lw : ∃ w : Nat, t.root = (w : Int) ∧ w + 1 = t.nodes.length ∧ Lw t.nodes none false 0 w
theorem l142_ok (n_ : Nat) (t : TreeV) (h : TreeOK t) (hn : 100 ≤ n_) : ∀ (m i : Nat), i ≤ t.nodes.length → t.nodes.length - i < m → l142_0 n_ t m (i : Int) = some true := by
  have hb := h.bd
  intro m
  induction m with
  | zero => intro i h1 h2; omega
  | succ m ih =>
    intro i h1 h2
    show l142_0_st n_ t (l142_0 n_ t m) (i : Int) = _
    unfold l142_0_st
    by_cases hi : i < t.nodes.length
    · rw [if_pos (by omega)]
      have hx := hb.2 (t.nodes.getD i dNode) (by rw [List.getD_eq_getElem?_getD, List.getElem?_eq_getElem hi]; exact List.getElem_mem hi)
      obtain ⟨⟨q1, q2, q3, q4⟩, ⟨p1, p2, p3, p4⟩⟩ := hx
      have hlen := hb.1
      rw [bindT (getT (x := t.nodes.getD i dNode) (by omega) (by omega) (by rw [Int.toNat_natCast]; exact getD_get' hi))]
      rw [if_neg (by omega), if_neg (by omega), if_neg (by omega), if_neg (by omega), if_neg (by omega), if_neg (by omega), if_neg (by omega), if_neg (by omega), ckF (by constructor <;> omega)]
      exact ih (i + 1) (by omega) (by omega)
    · rw [if_neg (by omega)]
      obtain ⟨w, e1, e2, e3⟩ := h.lw
      have hlen := hb.1
      have := (e3.span (by omega) n_ n_ (by omega)).1 rfl
      have : s181 n_ t.nodes t.nodes.length t.root false = some 0 := by rw [e1]; exact this
      rw [bindT this]
      rfl
theorem TreeOK.check {t : TreeV} (h : TreeOK t) {n_ : Nat} (hn : 100 ≤ n_) : s142 n_ t = some true := by
  obtain ⟨w, e1, e2, e3⟩ := h.lw
  have hlen := h.bd.1
  unfold s142
  rw [if_pos h.err, if_pos h.pos, if_neg (by omega), if_neg (by omega), ckF (by constructor <;> omega), if_pos (by omega)]
  exact l142_ok n_ t h hn n_ 0 (by omega) (by omega)
theorem DT_ok {s : List UInt8} (h : (DT s).err = 0) : TreeOK (DT s) := by
  obtain ⟨x, hx, hx2⟩ := D_ends s (10 * rem s 0 + 5) (.expr false) 0 [] (Nat.zero_le _) (by show _ + 5 ≤ _; exact Nat.le_refl _)
  have A := (dl s (10 * rem s 0 + 5)).expr false 0 [] x ⟨by simp, by simp⟩ hx
  have hs := (sim (s := s) (10 * rem s 0 + 5)).expr false 0 0 [] [] [] x at0 rfl (fun m O' h => by cases h) rfl hx
  match x with
  | .error (e, p) =>
    have e1 : DT s = ⟨[], -1, e, p⟩ := by unfold DT; rw [hx]
    rw [e1] at h
    exact absurd h hs.1
  | .ok (v, i, ns) =>
    obtain ⟨w, ms, rfl, h2, h3, h4, h5⟩ := A _ _ _ rfl
    by_cases h0 : (tok s i).kind = 0
    · have e1 : DT s = ⟨ns, (ns.length : Int) - 1, 0, 0⟩ := by unfold DT; rw [hx]; simp only; rw [if_pos h0]
      rw [e1]
      exact ⟨rfl, rfl, h4, w, by simp only; omega, h3, h5⟩
    · have e1 : DT s = ⟨[], -1, 3, (skip s i : Nat)⟩ := by unfold DT; rw [hx]; simp only; rw [if_neg h0]
      rw [e1] at h
      exact absurd h (by show (3 : Int) ≠ 0; decide)
/-- Parse's answer to a text. -/
def PT (s : List UInt8) : TreeV := if 40 < s.length then ⟨[], -1, 1, 0⟩ else DT s
/-- A former between its calls. -/
structure FIdle (S : FoS) : Prop where
  tl : S.toks.length = 41
  al : S.arena.length = 24
  vl : S.opnd.length = 41
  ol : S.ops.length = 41
  nt : S.nt = 0
  nn : S.nn = 0
  nv : S.nv = 0
  no : S.no = 0
theorem s115_ok (n : Nat) (hn : 100 ≤ n) (S : FoS) (s : List UInt8) (h : FIdle S) : ∃ S', s115 n S s = some (S', PT s) ∧ FIdle S' ∧ S'.notes = S.notes ∧ S'.out = S.out ∧ S'.w = S.w := by
  unfold s115 PT
  by_cases hl : 40 < s.length
  · rw [if_pos (by omega), if_pos hl]
    exact ⟨S, rfl, h, rfl, rfl, rfl⟩
  rw [if_neg (by omega), if_neg hl]
  have htl := toksFrom_len s 0 (Nat.zero_le _)
  obtain ⟨S1, e1, e2, e3, e4, e5⟩ := l138_ok n s (by omega) (by omega) n 0 { S with nt := 0 } (by omega) (Nat.zero_le _) (Int.le_refl _) h.tl (by show 0 + _ ≤ _; omega)
  have e1 : l138_2 n s n (0 : Int) { S with nt := 0 } = some S1 := e1
  unfold s138
  rw [bindT e1]
  have tk : Tk (toksFrom s 0).length { S1 with k := 0, pos := 0, have_ := false, done := false, err := 0, bad := 0 } (TT s) := by
    refine ⟨by omega, ?_, ?_⟩
    · intro k hk
      have := e5 k hk
      rw [show (0 : Int).toNat + k = k by simp] at this
      show S1.toks[k]? = _
      rw [this]
      unfold TT
      rw [List.getD_eq_getElem?_getD, List.getElem?_eq_getElem hk]
      rfl
    · intro k hk h0
      have hg : (toksFrom s 0)[k]? = some (TT s k) := by
        unfold TT
        rw [List.getD_eq_getElem?_getD, List.getElem?_eq_getElem hk]
        rfl
      rcases (toksFrom_get s 0 (Nat.zero_le _)).2 k _ hg with ⟨h1, _⟩ | ⟨_, e', _, _, _, h8⟩
      · exact absurd h1 h0
      · rcases Nat.lt_or_ge (k + 1) (toksFrom s 0).length with h9 | h9
        · exact h9
        · rw [List.getElem?_eq_none h9] at h8; cases h8
  have hfl : ∀ k, k < (toksFrom s 0).length → (TT s k).kind = 3 → (TT s k).n ≠ 0 := by
    intro k hk h3
    have hall : ∀ (k : Nat), k < (toksFrom s 0).length → ∃ i, At s k i := by
      intro k
      induction k with
      | zero => intro _; exact ⟨0, at0⟩
      | succ k ih =>
        intro hk
        obtain ⟨i, hi⟩ := ih (by omega)
        rcases (toksFrom_get s 0 (Nat.zero_le _)).2 k _ hi.get with ⟨h1, h2⟩ | ⟨_, e', h5, h6, _, h8⟩
        · omega
        · exact ⟨e', h6, h8⟩
    obtain ⟨i, hi⟩ := hall k hk
    rw [hi.tt] at h3 ⊢
    exact (tok_pt s i).2 h3
  have hS : S1.arena = S.arena ∧ S1.opnd = S.opnd ∧ S1.ops = S.ops ∧ S1.nn = 0 ∧ S1.nv = 0 ∧ S1.no = 0 ∧ S1.notes = S.notes ∧ S1.out = S.out ∧ S1.w = S.w := by
    rw [e2]
    exact ⟨rfl, rfl, rfl, h.nn, h.nv, h.no, rfl, rfl, rfl⟩
  obtain ⟨a1, a2, a3, a4, a5, a6, a7, a8, a9⟩ := hS
  have fr : FR { S1 with k := 0, pos := 0, have_ := false, done := false, err := 0, bad := 0 } { S1 with k := 0, pos := 0, have_ := false, done := false, err := 0, bad := 0 } (mk 0 0 [] [] [] false) :=
    { toks := rfl, nt := rfl, k := rfl, pos := rfl, arl := by show S1.arena.length = 24; rw [a1]; exact h.al, ar := rfl, nn := a4, vl := by show S1.opnd.length = 41; rw [a2]; exact h.vl, v := rfl, nv := a5,
      ol := by show S1.ops.length = 41; rw [a3]; exact h.ol, o := rfl, no := a6, hv := rfl, done := rfl, err := rfl, bad := rfl, notes := rfl, out := rfl, w := rfl }
  have j0 : (mk 0 0 [] [] [] false).err ≠ 0 ∨ J (toksFrom s 0).length (mk 0 0 [] [] [] false) (if (mk 0 0 [] [] [] false).hv = true then 1 else 0) := by
    right
    exact ⟨by show 0 ≤ 24; omega, rfl, Nat.le_refl _, htl.2, (fun x hx => by have hx : x ∈ ([] : List Int) := hx; cases hx), (fun x hx => by have hx : x ∈ ([] : List MarkT) := hx; cases hx)⟩
  have hend := run_end tk hfl 41 _ _ fr j0 (by show _ - 0 ≤ 41; omega)
  obtain ⟨j, hj⟩ := sim_all (s := s)
  have hsame : runM (TT s) (j + 41) (mk 0 0 [] [] [] false) = runM (TT s) 41 (mk 0 0 [] [] [] false) := by
    have hadd : ∀ (g a : Nat) (M : Mc), runM (TT s) (a + g) M = runM (TT s) g (runM (TT s) a M) := by
      intro g a
      induction a with
      | zero => intro M; rw [Nat.zero_add]; rfl
      | succ a ih =>
        intro M
        rw [show a + 1 + g = (a + g) + 1 by omega]
        show (if _ then _ else _) = runM (TT s) g (if _ then _ else _)
        split
        · exact ih _
        · rename_i hc
          cases g with
          | zero => rfl
          | succ g => show _ = (if _ then _ else _); rw [if_neg hc]
    rw [show j + 41 = 41 + j by omega, hadd j 41]
    rcases hend with hh | hh
    · rw [runM_stuck hh]
    · rw [runM_done hh]
  have hout : outM (runM (TT s) 41 (mk 0 0 [] [] [] false)) = DT s := by rw [← hsame]; exact (hj 41).1
  have hne : (runM (TT s) 41 (mk 0 0 [] [] [] false)).err = 0 → (runM (TT s) 41 (mk 0 0 [] [] [] false)).ar ≠ [] := by
    intro h0 hh
    unfold outM at hout
    rw [if_pos h0] at hout
    have he : (DT s).err = 0 := by rw [← hout]
    obtain ⟨w, _, h3, _⟩ := (DT_ok he).lw
    rw [← hout] at h3
    simp only [hh, List.length_nil] at h3
    omega
  obtain ⟨S', e6, f6⟩ := run_ok (n := n) tk hn hfl 41 n _ _ (by omega) fr j0 hend (fun _ h2 => by cases h2) hne
  rw [hout] at e6
  refine ⟨_, e6, ⟨?_, f6.arl, f6.vl, f6.ol, rfl, rfl, rfl, rfl⟩, ?_, ?_, ?_⟩
  · show S'.toks.length = 41
    rw [f6.toks]; exact e3
  · show S'.notes = _
    rw [f6.notes]; exact a7
  · show S'.out = _
    rw [f6.out]; exact a8
  · show S'.w = _
    rw [f6.w]; exact a9
end Go.Proofs.Qxb6500272aGreat
