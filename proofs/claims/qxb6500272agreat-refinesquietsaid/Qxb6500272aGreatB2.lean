/-
  Plain laws, the document: Check; Save on both sides.
-/
import Derived.Test.Qxb6500272aGreatB1
namespace Go.Proofs.Qxb6500272aGreat
open Go
set_option linter.unusedVariables false
set_option linter.unusedSimpArgs false
/-! ### Check -/
theorem s44_ok {n : Nat} (hn : 1000 ≤ n) {B : BS} {s : Nat} (hs : s < 6) (hP : B.pool.length = 288) (hT : B.turned.length = 6) {a b : Snap} (hr : RecOk B.pool B.turned s a b) {live : Bool} (hl : live = true ∨ a = b) : s44 n B (s : Int) live = some true := by
  have hp : ∀ c i, c < 24 → i < 2 → getN B.pool 288 ((((s * 24 + c) * 2 + i : Nat)) : Int) = some (pz B.pool s c i) := fun c i hc hi => getNd2 [] hP (by omega)
  have loop : ∀ (m i g : Nat), i + m = 24 → m < g → l44_1 n B (s : Int) (B.turned.getD s 0) g (i : Int) = some true := by
    intro m
    induction m with
    | zero =>
      intro i g h1 h2
      obtain ⟨g, rfl⟩ : ∃ g', g = g' + 1 := ⟨g - 1, by omega⟩
      show l44_1_st n B (s : Int) (B.turned.getD s 0) (l44_1 n B (s : Int) (B.turned.getD s 0) g) (i : Int) = _
      unfold l44_1_st
      rw [if_neg (by omega)]
    | succ m ih =>
      intro i g h1 h2
      obtain ⟨g, rfl⟩ : ∃ g', g = g' + 1 := ⟨g - 1, by omega⟩
      have hi : i < 24 := by omega
      have next : k44_0 (i : Int) (l44_1 n B (s : Int) (B.turned.getD s 0) g) = some true := by
        unfold k44_0
        rw [ckF (by constructor <;> omega)]
        exact ih (i + 1) g (by omega) (by omega)
      have p0 := hp i 0 hi (by omega)
      have p1 := hp i 1 hi (by omega)
      rw [Nat.add_zero] at p0
      have e1 : (((s * 24 + i) * 2 : Nat) : Int) + 1 = (((s * 24 + i) * 2 + 1 : Nat) : Int) := by omega
      show l44_1_st n B (s : Int) (B.turned.getD s 0) (l44_1 n B (s : Int) (B.turned.getD s 0) g) (i : Int) = _
      unfold l44_1_st
      rw [if_pos (by omega), bindT (s69_ok (by omega) hi), ckF (by omega), ckF (by omega), Int.toNat_natCast]
      by_cases hb : (B.turned.getD s 0).getLsbD i = true
      · obtain ⟨q1, q2, q3⟩ := hr.on i hi hb
        rw [if_pos (bit_shr.2 hb), bindT p0, ckF (by constructor <;> omega), e1, bindT p1, if_neg (by rw [q2, q3]; simpa using q1)]
        exact next
      · obtain ⟨q1, q2, q3⟩ := hr.off i hi (by simpa using hb)
        rw [if_neg (fun q => hb (bit_shr.1 q)), bindT p0, if_pos (by rw [q2]; rfl), ckF (by constructor <;> omega), e1, bindT p1, if_pos (by rw [q3]; rfl)]
        exact next
  have hsh : (((B.turned.getD s 0) >>> Int.toNat (24 : Int)).toNat : Int) = 0 := by
    show (((B.turned.getD s 0) >>> 24).toNat : Int) = 0
    rw [bv_zero]
    intro j hj
    rw [BitVec.getLsbD_ushiftRight]
    exact hr.in24 _ (by omega)
  unfold s44
  rw [bindT (getNd2 0 hT hs), if_pos hsh]
  have h0 := loop 24 0 n (by omega) (by omega)
  rcases hl with hl | hl
  · rw [if_pos hl]; exact h0
  · subst hl
    by_cases hv : live = true
    · rw [if_pos hv]; exact h0
    · rw [if_neg hv, if_pos (by rw [hr.dead0]; rfl)]; exact h0
theorem s45_ok {n : Nat} (hn : 1000 ≤ n) {B : BS} (hr : Raws B.e.k.raw) : ∀ (m i g : Nat) (a : Snap), i + m = 24 → m < g → a.length = 24 → (∀ j, j < i → rw_ a j = rw_ B.e.k.raw j) → l45_0 n B 24 g (i : Int) a = some B.e.k.raw := by
  intro m
  induction m with
  | zero =>
    intro i g a h1 h2 h4 h5
    obtain ⟨g, rfl⟩ : ∃ g', g = g' + 1 := ⟨g - 1, by omega⟩
    show l45_0_st n B 24 (l45_0 n B 24 g) (i : Int) a = _
    unfold l45_0_st
    rw [if_neg (by omega), snap_ext h4 hr.1 (fun c hc => h5 c (by omega))]
  | succ m ih =>
    intro i g a h1 h2 h4 h5
    obtain ⟨g, rfl⟩ : ∃ g', g = g' + 1 := ⟨g - 1, by omega⟩
    have hi : i < 24 := by omega
    have hraw : s64 B.e (i : Int) = some (rw_ B.e.k.raw i) := by
      unfold s64
      exact bindR (s86_ok hr hi)
    show l45_0_st n B 24 (l45_0 n B 24 g) (i : Int) a = _
    unfold l45_0_st
    rw [if_pos (by omega), bindT hraw, bindT (getNd2 [] h4 hi), ckF (by constructor <;> omega), Int.toNat_natCast]
    exact ih (i + 1) g _ (by omega) (by omega) (by rw [List.length_set]; exact h4) (by
      intro j hj
      have : rw_ (a.set i (rw_ B.e.k.raw i)) j = if j = i then rw_ B.e.k.raw i else rw_ a j := getD_set _ _ (by rw [h4]; exact hi) j
      rw [this]
      by_cases hji : j = i
      · rw [if_pos hji, hji]
      · rw [if_neg hji]; exact h5 j (by omega))
theorem s46_ok {n : Nat} (hn : 1000 ≤ n) {B : BS} {s : Nat} (hs : s < 6) {z : Nat} (hz : z < 2) (hP : B.pool.length = 288) (hT : B.turned.length = 6) {a b : Snap} (ha : Raws a) (hb : Raws b) (hr : RecOk B.pool B.turned s a b) :
    s46 n B (if z = 0 then a else b) 24 (s : Int) (z : Int) = some (if z = 0 then b else a, true) := by
  have hp : ∀ c i, c < 24 → i < 2 → getN B.pool 288 ((((s * 24 + c) * 2 + i : Nat)) : Int) = some (pz B.pool s c i) := fun c i hc hi => getNd2 [] hP (by omega)
  obtain ⟨src, tgt, hsrc, htgt, hRs, hRt, hon, hoff⟩ : ∃ src tgt : Snap, (if z = 0 then a else b) = src ∧ (if z = 0 then b else a) = tgt ∧ Raws src ∧ Raws tgt ∧ (∀ c, c < 24 → (B.turned.getD s 0).getLsbD c = true → pz B.pool s c z = rw_ src c ∧ pz B.pool s c (1 - z) = rw_ tgt c) ∧ (∀ c, c < 24 → (B.turned.getD s 0).getLsbD c = false → rw_ src c = rw_ tgt c) := by
    have hz' : z = 0 ∨ z = 1 := by omega
    rcases hz' with rfl | rfl
    · exact ⟨a, b, rfl, rfl, ha, hb, fun c hc h => (hr.on c hc h).2, fun c hc h => (hr.off c hc h).1⟩
    · exact ⟨b, a, rfl, rfl, hb, ha, fun c hc h => ⟨(hr.on c hc h).2.2, (hr.on c hc h).2.1⟩, fun c hc h => (hr.off c hc h).1.symm⟩
  rw [hsrc, htgt]
  have loop : ∀ (m i g : Nat) (l : Snap), i + m = 24 → m < g → l.length = 24 → (∀ j, j < 24 → rw_ l j = if j < i then rw_ tgt j else rw_ src j) → l46_3 n B 24 (s : Int) (z : Int) (B.turned.getD s 0) g (i : Int) l = some (tgt, true) := by
    intro m
    induction m with
    | zero =>
      intro i g l h1 h2 h3 h4
      obtain ⟨g, rfl⟩ : ∃ g', g = g' + 1 := ⟨g - 1, by omega⟩
      show l46_3_st n B 24 (s : Int) (z : Int) (B.turned.getD s 0) (l46_3 n B 24 (s : Int) (z : Int) (B.turned.getD s 0) g) (i : Int) l = _
      unfold l46_3_st
      rw [if_neg (by omega), snap_ext h3 hRt.1 (fun c hc => by rw [h4 c hc, if_pos (by omega)])]
    | succ m ih =>
      intro i g l h1 h2 h3 h4
      obtain ⟨g, rfl⟩ : ∃ g', g = g' + 1 := ⟨g - 1, by omega⟩
      have hi : i < 24 := by omega
      have k2 : ∀ l, k46_2 (i : Int) (l46_3 n B 24 (s : Int) (z : Int) (B.turned.getD s 0) g) l = l46_3 n B 24 (s : Int) (z : Int) (B.turned.getD s 0) g ((i + 1 : Nat) : Int) l := by
        intro l
        unfold k46_2
        rw [ckF (by constructor <;> omega)]; rfl
      show l46_3_st n B 24 (s : Int) (z : Int) (B.turned.getD s 0) (l46_3 n B 24 (s : Int) (z : Int) (B.turned.getD s 0) g) (i : Int) l = _
      unfold l46_3_st
      rw [if_pos (by omega), ckF (by omega), ckF (by omega), Int.toNat_natCast]
      by_cases hbt : (B.turned.getD s 0).getLsbD i = true
      · obtain ⟨q1, q2⟩ := hon i hi hbt
        have p0 := hp i z hi hz
        have p1 := hp i (1 - z) hi (by omega)
        have hl : getN l 24 (i : Int) = some (rw_ src i) := by
          have : rw_ l i = rw_ src i := by rw [h4 i hi, if_neg (by omega)]
          rw [← this]; exact getNd2 [] h3 hi
        rw [if_pos (bit_shr.2 hbt), bindT (s69_ok (by omega) hi), bindT hl, ckF (by constructor <;> omega), show (((s * 24 + i) * 2 : Nat) : Int) + (z : Int) = (((s * 24 + i) * 2 + z : Nat) : Int) by omega, bindT p0, if_pos (by rw [q1]; simp)]
        rw [ckF (by constructor <;> omega), ckF (by constructor <;> omega), show (((s * 24 + i) * 2 : Nat) : Int) + 1 - (z : Int) = (((s * 24 + i) * 2 + (1 - z) : Nat) : Int) by omega, bindT p1, k2]
        refine ih (i + 1) g _ (by omega) (by omega) (by rw [List.length_set]; exact h3) (by
          intro j hj
          have : rw_ (l.set i (pz B.pool s i (1 - z))) j = if j = i then pz B.pool s i (1 - z) else rw_ l j := getD_set _ _ (by rw [h3]; exact hi) j
          rw [this]
          by_cases hji : j = i
          · rw [if_pos hji, if_pos (by omega), hji, q2]
          · rw [if_neg hji, h4 j hj]
            by_cases hlt : j < i
            · rw [if_pos hlt, if_pos (by omega)]
            · rw [if_neg hlt, if_neg (by omega)])
      · rw [if_neg (fun q => hbt (bit_shr.1 q)), k2]
        refine ih (i + 1) g _ (by omega) (by omega) h3 (by
          intro j hj
          rw [h4 j hj]
          by_cases hji : j = i
          · subst hji
            rw [if_neg (by omega), if_pos (by omega)]
            exact hoff j hj (by simpa using hbt)
          · by_cases hlt : j < i
            · rw [if_pos hlt, if_pos (by omega)]
            · rw [if_neg hlt, if_neg (by omega)])
  unfold s46
  rw [bindT (getNd2 0 hT hs)]
  exact loop 24 0 n src (by omega) (by omega) hRs.1 (fun j hj => by rw [if_neg (by omega)])
theorem s24_ok {n : Nat} (hn : 1000 ≤ n) {B : BS} {hist : Nat → Snap} {u r b : Nat} (h : RG B hist u r b) (hcur : B.e.k.raw = hist u) : s24 n B = some true := by
  have hur := h.ur
  have hun := h.un
  have hre := h.re
  have hb6 := h.b6
  have hbase := h.base
  have hraw : Raws B.e.k.raw := by rw [hcur]; exact h.raws u
  have l0 : ∀ (m k g : Nat), k + m = u + r → m < g → l24_0 n B g (k : Int) (hist k) = some true := by
    intro m
    induction m with
    | zero =>
      intro k g h1 h2
      obtain ⟨g, rfl⟩ : ∃ g', g = g' + 1 := ⟨g - 1, by omega⟩
      show l24_0_st n B (l24_0 n B g) (k : Int) (hist k) = _
      unfold l24_0_st
      rw [if_neg (by omega)]
    | succ m ih =>
      intro k g h1 h2
      obtain ⟨g, rfl⟩ : ∃ g', g = g' + 1 := ⟨g - 1, by omega⟩
      have e := s46_ok hn (s := (b + k) % 6) (by omega) (z := 0) (by omega) h.pl h.tl (h.raws k) (h.raws (k + 1)) (h.recs k (by omega))
      have e : s46 n B (hist k) 24 (((b + k) % 6 : Nat) : Int) (0 : Int) = some (hist (k + 1), true) := e
      show l24_0_st n B (l24_0 n B g) (k : Int) (hist k) = _
      unfold l24_0_st
      rw [if_pos (by omega), bindT (s43_ok hbase hb6 (by omega)), bindT e, if_pos rfl, ckF (by constructor <;> omega)]
      exact ih (k + 1) g (by omega) (by omega)
  have l1 : ∀ (k g : Nat), k ≤ u → k < g → l24_1 n B g ((k : Int) - 1) (hist k) = some true := by
    intro k
    induction k with
    | zero =>
      intro g h1 h2
      obtain ⟨g, rfl⟩ : ∃ g', g = g' + 1 := ⟨g - 1, by omega⟩
      show l24_1_st n B (l24_1 n B g) (((0 : Nat) : Int) - 1) (hist 0) = _
      unfold l24_1_st
      have ht : s45 n B (hist 0) 24 = some (hist u) := by
        rw [← hcur]
        exact s45_ok hn hraw 24 0 n (hist 0) (by omega) (by omega) (h.raws 0).1 (fun j hj => by omega)
      rw [if_neg (by omega), bindT ht, hun]
      exact l0 r u n (by omega) (by omega)
    | succ k ih =>
      intro g h1 h2
      obtain ⟨g, rfl⟩ : ∃ g', g = g' + 1 := ⟨g - 1, by omega⟩
      have e := s46_ok hn (s := (b + k) % 6) (by omega) (z := 1) (by omega) h.pl h.tl (h.raws k) (h.raws (k + 1)) (h.recs k (by omega))
      have e : s46 n B (hist (k + 1)) 24 (((b + k) % 6 : Nat) : Int) (1 : Int) = some (hist k, true) := e
      show l24_1_st n B (l24_1 n B g) (((k + 1 : Nat) : Int) - 1) (hist (k + 1)) = _
      unfold l24_1_st
      rw [show ((k + 1 : Nat) : Int) - 1 = (k : Int) by omega, if_pos (by omega), bindT (s43_ok hbase hb6 (by omega)), bindT e, if_pos rfl, ckF (by constructor <;> omega)]
      exact ih g (by omega) (by omega)
  have l2 : ∀ (m k g : Nat), k + m = 6 → m < g → l24_2 n B g (k : Int) = some true := by
    intro m
    induction m with
    | zero =>
      intro k g h1 h2
      obtain ⟨g, rfl⟩ : ∃ g', g = g' + 1 := ⟨g - 1, by omega⟩
      have ht : s45 n B (List.replicate 24 []) 24 = some (hist u) := by
        rw [← hcur]
        exact s45_ok hn hraw 24 0 n _ (by omega) (by omega) (by simp) (fun j hj => by omega)
      show l24_2_st n B (l24_2 n B g) (k : Int) = _
      unfold l24_2_st
      rw [if_neg (by omega), bindT ht, ckF (by constructor <;> omega), hun]
      exact l1 u n (Nat.le_refl _) (by omega)
    | succ m ih =>
      intro k g h1 h2
      obtain ⟨g, rfl⟩ : ∃ g', g = g' + 1 := ⟨g - 1, by omega⟩
      have e := s44_ok hn (s := (b + k) % 6) (by omega) h.pl h.tl (h.recs k (by omega)) (live := decide ((k : Int) < B.undos + B.redos)) (by
        by_cases hk : k < u + r
        · left; exact decide_eq_true (by omega)
        · right; rw [h.tail k (by omega), h.tail (k + 1) (by omega)])
      show l24_2_st n B (l24_2 n B g) (k : Int) = _
      unfold l24_2_st
      rw [if_pos (by omega), bindT (s43_ok hbase hb6 (by omega)), bindT e, if_pos rfl, ckF (by constructor <;> omega)]
      exact ih (k + 1) g (by omega) (by omega)
  unfold s24
  rw [if_neg (by omega), if_neg (by omega), if_neg (by omega), if_neg (by omega), ckF (by constructor <;> omega), if_neg (by omega)]
  exact l2 6 0 n (by omega) (by omega)
/-! ### Save -/
def two (z : Nat) : List UInt8 := [UInt8.ofNat (48 + z / 10), UInt8.ofNat (48 + z % 10)]
def ent (c : Nat) (raw : List UInt8) : List UInt8 := if raw = [] then [] else two c ++ (two raw.length ++ raw)
def saveL (rs : Snap) : Nat → Nat → List UInt8
  | 0, _ => []
  | m + 1, i => ent i (rw_ rs i) ++ saveL rs m (i + 1)
theorem s68_ok {z : Nat} (hz : z < 100) : s68 (z : Int) = some (two z) := by
  have e1 : Int.tdiv (z : Int) 10 = ((z / 10 : Nat) : Int) := by rw [Int.tdiv_eq_ediv_of_nonneg (by omega)]; rfl
  have e2 : Int.tmod (z : Int) 10 = ((z % 10 : Nat) : Int) := by rw [Int.tmod_eq_emod_of_nonneg (by omega)]; rfl
  unfold s68
  rw [e1, e2, ckF (by constructor <;> omega), ckF (by constructor <;> omega), ckF (by omega), ckF (by constructor <;> omega), ckF (by omega)]
  unfold two
  rw [show Int.toNat ((48 : Int) + ((z / 10 : Nat) : Int)) = 48 + z / 10 by omega, show Int.toNat ((48 : Int) + ((z % 10 : Nat) : Int)) = 48 + z % 10 by omega]
theorem ent_len {c : Nat} {raw : List UInt8} (h : raw.length ≤ 40) : (ent c raw).length ≤ 44 := by
  unfold ent
  split
  · simp
  · simp only [List.length_append, two, List.length_cons, List.length_nil]; omega
theorem saveM_ok {n : Nat} (hn : 1000 ≤ n) {M : BMS} (hr : Raws M.e.k.raw) : ∀ (m i g : Nat) (acc : List UInt8), i + m = 24 → m < g → acc.length ≤ 44 * i → l42_1 n M g acc (i : Int) = some (acc ++ saveL M.e.k.raw m i) := by
  intro m
  induction m with
  | zero =>
    intro i g acc h1 h2 h3
    obtain ⟨g, rfl⟩ : ∃ g', g = g' + 1 := ⟨g - 1, by omega⟩
    show l42_1_st n M (l42_1 n M g) acc (i : Int) = _
    unfold l42_1_st
    rw [if_neg (by omega)]
    unfold saveL
    rw [List.append_nil]
  | succ m ih =>
    intro i g acc h1 h2 h3
    obtain ⟨g, rfl⟩ : ∃ g', g = g' + 1 := ⟨g - 1, by omega⟩
    have hi : i < 24 := by omega
    have hlen := hr.at i
    have hel := ent_len (c := i) hlen
    have hraw : s65 M.e (i : Int) = some (rw_ M.e.k.raw i) := by
      unfold s65
      exact bindR (s87_ok hr hi)
    have k0 : ∀ acc, k42_0 (i : Int) (l42_1 n M g) acc = l42_1 n M g acc ((i + 1 : Nat) : Int) := by
      intro acc
      unfold k42_0
      rw [ckF (by constructor <;> omega)]; rfl
    show l42_1_st n M (l42_1 n M g) acc (i : Int) = _
    unfold l42_1_st
    rw [if_pos (by omega), bindT hraw]
    show _ = some (acc ++ (ent i (rw_ M.e.k.raw i) ++ saveL M.e.k.raw m (i + 1)))
    by_cases h0 : rw_ M.e.k.raw i = []
    · rw [if_pos (by rw [h0]; rfl), k0, ih (i + 1) g acc (by omega) (by omega) (by omega)]
      unfold ent
      rw [if_pos h0, List.nil_append]
    · have e : ((acc ++ two i) ++ two (rw_ M.e.k.raw i).length) ++ rw_ M.e.k.raw i = acc ++ ent i (rw_ M.e.k.raw i) := by
        unfold ent
        rw [if_neg h0]; simp
      have ht : ∀ z, (two z).length = 2 := fun z => rfl
      rw [if_neg (by simpa using h0), bindT (s68_ok (by omega)), ckF (by rw [ht]; omega), bindT (s68_ok (by omega)), ckF (by rw [List.length_append, ht, ht]; omega), ckF (by rw [List.length_append, List.length_append, ht, ht]; omega), k0, e, ih (i + 1) g _ (by omega) (by omega) (by rw [List.length_append]; omega), List.append_assoc]
theorem s42_ok {n : Nat} (hn : 1000 ≤ n) {M : BMS} (hr : Raws M.e.k.raw) : s42 n M = some (saveL M.e.k.raw 24 0) := by
  have := saveM_ok hn hr 24 0 n [] (by omega) (by omega) (by simp)
  exact this
theorem putL_len (s : List UInt8) : ∀ (l : List Int) (o : Nat), (putL l o s).length = l.length := by
  induction s with
  | nil => intro l o; rfl
  | cons c s ih => intro l o; show (putL (l.set o c.toNat) (o + 1) s).length = _; rw [ih, List.length_set]
theorem putL_take (s : List UInt8) : ∀ (l : List Int) (o : Nat), o + s.length ≤ l.length → (putL l o s).take (o + s.length) = l.take o ++ toI s := by
  induction s with
  | nil => intro l o h; show l.take (o + 0) = _; simp [toI]
  | cons c s ih =>
    intro l o h
    simp only [List.length_cons] at h
    show (putL (l.set o (c.toNat : Int)) (o + 1) s).take (o + (s.length + 1)) = _
    rw [show o + (s.length + 1) = o + 1 + s.length by omega, ih _ _ (by rw [List.length_set]; omega)]
    have : (l.set o (c.toNat : Int)).take (o + 1) = l.take o ++ [(c.toNat : Int)] := by
      rw [List.take_succ_eq_append_getElem (by rw [List.length_set]; omega), List.take_set_of_le (by omega)]
      simp
    rw [this, List.append_assoc]
    rfl
theorem saveR_ok {n : Nat} (hn : 1000 ≤ n) : ∀ (m i g : Nat) (B : BS) (acc : List UInt8), i + m = 24 → m < g → Raws B.e.k.raw → B.out.length = 1056 → acc.length ≤ 44 * i → B.out.take acc.length = toI acc → ∃ O, l41_3 n g (acc.length : Int) (i : Int) B = some ({ B with out := O }, acc ++ saveL B.e.k.raw m i) ∧ O.length = 1056 := by
  intro m
  induction m with
  | zero =>
    intro i g B acc h1 h2 hr ho h3 h4
    obtain ⟨g, rfl⟩ : ∃ g', g = g' + 1 := ⟨g - 1, by omega⟩
    refine ⟨B.out, ?_, ho⟩
    show l41_3_st n (l41_3 n g) (acc.length : Int) (i : Int) B = _
    unfold l41_3_st
    have hts : toS B.out 0 (Int.toNat (acc.length : Int)) = some acc := by
      unfold toS bytesAt
      rw [Int.toNat_natCast, List.drop_zero, h4, if_pos ⟨by omega, toI_ok acc⟩, toI_back]
    rw [if_neg (by omega), ckF (by omega), bindT hts]
    unfold saveL
    rw [List.append_nil]
  | succ m ih =>
    intro i g B acc h1 h2 hr ho h3 h4
    obtain ⟨g, rfl⟩ : ∃ g', g = g' + 1 := ⟨g - 1, by omega⟩
    have hi : i < 24 := by omega
    have hlen := hr.at i
    have hel := ent_len (c := i) hlen
    have hraw : s64 B.e (i : Int) = some (rw_ B.e.k.raw i) := by
      unfold s64
      exact bindR (s86_ok hr hi)
    have k2 : ∀ x B, k41_2 (i : Int) (l41_3 n g) x B = l41_3 n g x ((i + 1 : Nat) : Int) B := by
      intro x B
      unfold k41_2
      rw [ckF (by constructor <;> omega)]; rfl
    show ∃ O, l41_3_st n (l41_3 n g) (acc.length : Int) (i : Int) B = some (_, acc ++ (ent i (rw_ B.e.k.raw i) ++ saveL B.e.k.raw m (i + 1))) ∧ _
    unfold l41_3_st
    rw [if_pos (by omega), bindT hraw]
    by_cases h0 : rw_ B.e.k.raw i = []
    · rw [if_pos (by rw [h0]; rfl), k2]
      obtain ⟨O, e, hO⟩ := ih (i + 1) g B acc (by omega) (by omega) hr ho (by omega) h4
      refine ⟨O, ?_, hO⟩
      rw [e]
      unfold ent
      rw [if_pos h0, List.nil_append]
    · generalize hRW : rw_ B.e.k.raw i = raw at *
      have e1 : Int.tdiv (i : Int) 10 = ((i / 10 : Nat) : Int) := by rw [Int.tdiv_eq_ediv_of_nonneg (by omega)]; rfl
      have e2 : Int.tmod (i : Int) 10 = ((i % 10 : Nat) : Int) := by rw [Int.tmod_eq_emod_of_nonneg (by omega)]; rfl
      have e3 : Int.tdiv (raw.length : Int) 10 = ((raw.length / 10 : Nat) : Int) := by rw [Int.tdiv_eq_ediv_of_nonneg (by omega)]; rfl
      have e4 : Int.tmod (raw.length : Int) 10 = ((raw.length % 10 : Nat) : Int) := by rw [Int.tmod_eq_emod_of_nonneg (by omega)]; rfl
      have hent : (ent i raw) = UInt8.ofNat (48 + i / 10) :: UInt8.ofNat (48 + i % 10) :: UInt8.ofNat (48 + raw.length / 10) :: UInt8.ofNat (48 + raw.length % 10) :: raw := by
        unfold ent two
        rw [if_neg h0]; rfl
      have hentl : (ent i raw).length = 4 + raw.length := by rw [hent]; simp; omega
      have b : ∀ z : Nat, z ≤ 200 → ((UInt8.ofNat z).toNat : Int) = (z : Int) := by
        intro z hz
        rw [UInt8.toNat_ofNat']
        omega
      have hput : putL B.out acc.length (ent i raw) = putL (List.set (List.set (List.set (List.set B.out acc.length ((48 : Int) + ((i / 10 : Nat) : Int))) (acc.length + 1) ((48 : Int) + ((i % 10 : Nat) : Int))) (acc.length + 2) ((48 : Int) + ((raw.length / 10 : Nat) : Int))) (acc.length + 3) ((48 : Int) + ((raw.length % 10 : Nat) : Int))) (acc.length + 4) raw := by
        rw [hent]
        show putL ((((B.out.set acc.length ((UInt8.ofNat (48 + i / 10)).toNat : Int)).set (acc.length + 1) ((UInt8.ofNat (48 + i % 10)).toNat : Int)).set (acc.length + 1 + 1) ((UInt8.ofNat (48 + raw.length / 10)).toNat : Int)).set (acc.length + 1 + 1 + 1) ((UInt8.ofNat (48 + raw.length % 10)).toNat : Int)) (acc.length + 1 + 1 + 1 + 1) raw = _
        rw [b _ (by omega), b _ (by omega), b _ (by omega), b _ (by omega)]
        congr 4 <;> omega
      have hmin : Nat.min raw.length (1056 - (acc.length + 4)) = raw.length := Nat.min_eq_left (by omega)
      have x1 : ((acc.length : Int) + 1) = ((acc.length + 1 : Nat) : Int) := by omega
      have x2 : ((acc.length : Int) + 2) = ((acc.length + 2 : Nat) : Int) := by omega
      have x3 : ((acc.length : Int) + 3) = ((acc.length + 3 : Nat) : Int) := by omega
      have x4 : ((acc.length : Int) + 4) = ((acc.length + 4 : Nat) : Int) := by omega
      have c1 : ∀ z : Nat, z ≤ 10000 → i64ok (z : Int) := fun z hz => by constructor <;> omega
      have c2 : ∀ z : Nat, z ≤ 100 → i64ok ((48 : Int) + (z : Int)) := fun z hz => by constructor <;> omega
      have c3 : ∀ z : Nat, z ≤ 100 → (0 ≤ (48 : Int) + (z : Int) ∧ (48 : Int) + (z : Int) ≤ 255) := fun z hz => by omega
      rw [if_neg (by simpa using h0), e1, e2, e3, e4, x1, x2, x3, x4]
      simp only [Int.toNat_natCast]
      rw [ckF (c1 _ (by omega)), ckF (c2 _ (by omega)), ckF (c3 _ (by omega)), bindT (getNd2 0 ho (by omega)), ckF (c1 _ (by omega)), ckF (c2 _ (by omega)), ckF (c3 _ (by omega)), bindT (getNd2 0 (by rw [List.length_set]; exact ho) (by omega)), ckF (c1 _ (by omega)), ckF (c1 _ (by omega)), ckF (c2 _ (by omega)), ckF (c3 _ (by omega)), bindT (getNd2 0 (by rw [List.length_set, List.length_set]; exact ho) (by omega)), ckF (c1 _ (by omega)), ckF (c2 _ (by omega)), ckF (c3 _ (by omega)), bindT (getNd2 0 (by rw [List.length_set, List.length_set, List.length_set]; exact ho) (by omega)), ckF (c1 _ (by omega)), ckF (by omega), ckF (by rw [hmin, List.length_set, List.length_set, List.length_set, List.length_set]; omega), ckF (by constructor <;> omega), k2, hmin, List.take_length, ← hput]
      obtain ⟨O, e, hO⟩ := ih (i + 1) g { B with out := putL B.out acc.length (ent i raw) } (acc ++ ent i raw) (by omega) (by omega) hr (by show (putL _ _ _).length = 1056; rw [putL_len]; exact ho) (by rw [List.length_append]; omega) (by
        show (putL B.out acc.length (ent i raw)).take _ = _
        rw [List.length_append, putL_take _ _ _ (by omega), h4]
        unfold toI
        rw [List.map_append])
      refine ⟨O, ?_, hO⟩
      rw [show ((acc.length + 4 : Nat) : Int) + (raw.length : Int) = ((acc ++ ent i raw).length : Int) by rw [List.length_append, hentl]; omega]
      rw [e, List.append_assoc]
theorem s41_ok {n : Nat} (hn : 1000 ≤ n) {B : BS} (hr : Raws B.e.k.raw) (ho : B.out.length = 1056) : ∃ O, s41 n B = some ({ B with out := O }, saveL B.e.k.raw 24 0) ∧ O.length = 1056 := by
  obtain ⟨O, e, h⟩ := saveR_ok hn 24 0 n B [] (by omega) (by omega) hr ho (by simp) (by simp [toI])
  exact ⟨O, e, h⟩
end Go.Proofs.Qxb6500272aGreat
