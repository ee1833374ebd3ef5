/-
  LeastStations: the table of all sets finds the fewest stations. No condition.
-/
import Derived.Test.YtgcmklniacjcfaaLsG
namespace Go.Proofs.Ytgcmklniacjcfaa.Ls
open Go Go.Proofs.Ytgcmklniacjcfaa Go.Proofs.Ytgcmklniacjcfaa.Fw
set_option linter.unusedVariables false
set_option linter.unusedSimpArgs false

/-- The load of a station, of the first k tasks of a set. -/
def loadM (xs : List Int) (D : Nat) (a : Nat → Nat) : Nat → Nat → Int
  | 0, _ => 0
  | k + 1, s => loadM xs D a k s + (if D.testBit k = true ∧ a k = s then xs.getD k 0 else 0)

/-- A set of tasks on so many stations. -/
structure Val (xs bs : List Int) (c : Int) (D : Nat) (a : Nat → Nat) (q : Nat) : Prop where
  st : ∀ i, i < xs.length → D.testBit i = true → a i < q
  pr : ∀ i, i < xs.length → D.testBit i = true → ∀ k, k < i → befB (bs.getD i 0) k = true → D.testBit k = true ∧ a k ≤ a i
  ld : ∀ s, s < q → loadM xs D a xs.length s ≤ c

/-- What is asked of the lists. -/
structure LineOk (xs bs : List Int) (c : Int) : Prop where
  n1 : 1 ≤ xs.length
  n12 : xs.length ≤ 12
  bl : bs.length = xs.length
  xb : ∀ i, i < xs.length → 1 ≤ xs.getD i 0 ∧ xs.getD i 0 ≤ c
  bb : ∀ i, i < xs.length → 0 ≤ bs.getD i 0 ∧ bs.getD i 0 < 2 ^ i
  cb : 1 ≤ c ∧ c ≤ 10000

theorem befB_nat {a k : Nat} (ha : a < 4096) (hk : k ≤ 24) : befB (a : Int) k = a.testBit k := by
  unfold befB
  rw [bit_val ha hk]
  cases a.testBit k <;> rfl

theorem andnot_iff {a d i : Nat} (ha : a < 2 ^ i) (hi : i ≤ 12) (hd : d < 4096) : ibits .andNot .i64 (a : Int) (d : Int) = 0 ↔ ∀ k, k < i → a.testBit k = true → d.testBit k = true := by
  have h12 : 2 ^ i ≤ 2 ^ 12 := Nat.pow_le_pow_right (by decide) hi
  have h12 : 2 ^ i ≤ 4096 := h12
  have hbit : ∀ k, k < 64 → (BitVec.ofInt 64 (a : Int) &&& ~~~BitVec.ofInt 64 (d : Int)).getLsbD k = (a.testBit k && !d.testBit k) := fun k hk => by
    rw [BitVec.getLsbD_and, BitVec.getLsbD_not, BitVec.getLsbD, BitVec.getLsbD, bv_nat (by omega), bv_nat (by omega)]
    simp [hk]
  have hle : (BitVec.ofInt 64 (a : Int) &&& ~~~BitVec.ofInt 64 (d : Int)).toNat ≤ a := by
    rw [BitVec.toNat_and, bv_nat (by omega)]
    exact Nat.and_le_left
  have hval : ibits .andNot .i64 (a : Int) (d : Int) = ((BitVec.ofInt 64 (a : Int) &&& ~~~BitVec.ofInt 64 (d : Int)).toNat : Int) := by
    unfold ibits
    show IntKind.wrap .i64 (((BitVec.ofInt 64 (a : Int) &&& ~~~BitVec.ofInt 64 (d : Int)).toNat : Nat) : Int) = _
    exact IntWalk.i64_in _ (by omega)
  rw [hval]
  constructor
  · intro h k hk hak
    have h0 : BitVec.ofInt 64 (a : Int) &&& ~~~BitVec.ofInt 64 (d : Int) = 0#64 := by
      apply BitVec.eq_of_toNat_eq
      simpa using h
    have := hbit k (by omega)
    rw [h0, hak] at this
    simpa using this
  · intro h
    have h0 : BitVec.ofInt 64 (a : Int) &&& ~~~BitVec.ofInt 64 (d : Int) = 0#64 := by
      apply BitVec.eq_of_getLsbD_eq
      intro j hj
      rw [hbit j hj]
      by_cases hji : j < i
      · cases haj : a.testBit j with
        | false => simp
        | true => rw [h j hji haj]; simp
      · rw [Nat.testBit_lt_two_pow (Nat.lt_of_lt_of_le ha (Nat.pow_le_pow_right (by decide) (by omega)))]
        simp
    rw [h0]
    rfl

theorem skipT_iff {xs bs : List Int} {c : Int} (H : LineOk xs bs c) {d i : Nat} (hi : i < xs.length) (hd : d < 4096) :
    skipT bs d i = false ↔ d.testBit i = false ∧ ∀ k, k < i → befB (bs.getD i 0) k = true → d.testBit k = true := by
  have hb := H.bb i hi
  have hn := H.n12
  obtain ⟨b, hbn⟩ : ∃ b : Nat, bs.getD i 0 = (b : Int) := ⟨(bs.getD i 0).toNat, by omega⟩
  rw [hbn] at hb ⊢
  have hb2 : b < 2 ^ i := by
    have h2 : ((2 : Int) ^ i) = ((2 ^ i : Nat) : Int) := by simp
    omega
  have hb12 : b < 4096 := Nat.lt_of_lt_of_le hb2 (Nat.le_trans (Nat.pow_le_pow_right (by decide) (show i ≤ 12 by omega)) (by decide))
  have hiff := andnot_iff hb2 (show i ≤ 12 by omega) hd
  unfold skipT
  rw [Bool.or_eq_false_iff, hbn, bne_eq_false_iff_eq, hiff]
  constructor
  · rintro ⟨h1, h2⟩
    exact ⟨h1, fun k hk hbk => h2 k hk (by rw [befB_nat hb12 (by omega)] at hbk; exact hbk)⟩
  · rintro ⟨h1, h2⟩
    exact ⟨h1, fun k hk hbk => h2 k hk (by rw [befB_nat hb12 (by omega)]; exact hbk)⟩

/-- Fewer stations, or as many and no more load. -/
def leL (a b : Int × Int) : Prop := a.1 < b.1 ∨ (a.1 = b.1 ∧ a.2 ≤ b.2)

theorem leL_refl (a : Int × Int) : leL a a := .inr ⟨rfl, Int.le_refl _⟩
theorem leL_trans {a b c : Int × Int} (h : leL a b) (h' : leL b c) : leL a c := by
  unfold leL at *
  omega
theorem lessT_iff {a b : Int × Int} : lessT a b = true ↔ ¬ leL b a := by
  unfold lessT leL
  simp only [Bool.or_eq_true, Bool.and_eq_true, decide_eq_true_eq, beq_iff_eq]
  omega

theorem nextT_mono {c x : Int} {v : Int × Int} {q L : Int} (hx : 0 ≤ x) (hL : 0 ≤ L) (hv : 0 ≤ v.2) (h : leL v (q, L)) (hc : L + x ≤ c) : leL (nextT c v x) (q, L + x) := by
  unfold nextT leL at *
  simp only at h ⊢
  split <;> simp only <;> omega

/-- The table only sinks. -/
def Low (S S' : TabS) : Prop := ∀ j, S.2 j = true → S'.2 j = true ∧ leL (S'.1 j) (S.1 j)
theorem Low.refl (S : TabS) : Low S S := fun j h => ⟨h, leL_refl _⟩
theorem Low.trans {S S' S'' : TabS} (h : Low S S') (h' : Low S' S'') : Low S S'' := fun j hj => ⟨(h' j (h j hj).1).1, leL_trans (h' j (h j hj).1).2 (h j hj).2⟩

section
variable {xs bs : List Int} {c : Int}

theorem low_step (d i : Nat) (S : TabS) : Low S (stepT xs bs c d i S) := by
  unfold stepT
  cases skipT bs d i with
  | true => exact Low.refl _
  | false =>
    rw [cond_false]
    generalize d ||| 2 ^ i = t
    cases hc : !S.2 t || lessT (nextT c (S.1 d) (xs.getD i 0)) (S.1 t) with
    | false => exact Low.refl _
    | true =>
      rw [cond_true]
      intro j hj
      simp only [upd]
      by_cases e : j = t
      · subst e
        rw [if_pos rfl, if_pos rfl]
        refine ⟨rfl, ?_⟩
        rw [hj, Bool.not_true, Bool.false_or, lessT_iff] at hc
        unfold leL at *
        omega
      · rw [if_neg e, if_neg e]
        exact ⟨hj, leL_refl _⟩

theorem low_in (d : Nat) (S : TabS) : ∀ k e, Low (inT xs bs c d S k) (inT xs bs c d S (k + e)) := by
  intro k e
  induction e with
  | zero => exact Low.refl _
  | succ e ih => exact ih.trans (low_step d (k + e) _)

theorem low_out1 (d : Nat) : Low (outT xs bs c d) (outT xs bs c (d + 1)) := by
  rw [outT]
  cases (outT xs bs c d).2 d with
  | false => exact Low.refl _
  | true =>
    rw [cond_true]
    have := low_in (xs := xs) (bs := bs) (c := c) d (outT xs bs c d) 0 xs.length
    rw [Nat.zero_add] at this
    exact this

theorem low_out (d : Nat) : ∀ e, Low (outT xs bs c d) (outT xs bs c (d + e)) := by
  intro e
  induction e with
  | zero => exact Low.refl _
  | succ e ih => exact ih.trans (low_out1 (d + e))

/-- What lies at d or ahead of it stays. -/
theorem keep_step {d i j : Nat} (hj : j ≤ d) (S : TabS) : (stepT xs bs c d i S).1 j = S.1 j ∧ (stepT xs bs c d i S).2 j = S.2 j := by
  unfold stepT
  cases hs : skipT bs d i with
  | true => exact ⟨rfl, rfl⟩
  | false =>
    rw [cond_false]
    have hb : d.testBit i = false := by
      unfold skipT at hs
      rw [Bool.or_eq_false_iff] at hs
      exact hs.1
    have hgt := or_gt hb
    generalize d ||| 2 ^ i = t at *
    cases !S.2 t || lessT (nextT c (S.1 d) (xs.getD i 0)) (S.1 t) with
    | false => exact ⟨rfl, rfl⟩
    | true =>
      rw [cond_true]
      simp only [upd]
      rw [if_neg (by omega), if_neg (by omega)]
      exact ⟨rfl, rfl⟩

theorem keep_in {d j : Nat} (hj : j ≤ d) (S : TabS) : ∀ k, (inT xs bs c d S k).1 j = S.1 j ∧ (inT xs bs c d S k).2 j = S.2 j := by
  intro k
  induction k with
  | zero => exact ⟨rfl, rfl⟩
  | succ k ih =>
    have := keep_step (xs := xs) (bs := bs) (c := c) (i := k) hj (inT xs bs c d S k)
    exact ⟨this.1.trans ih.1, this.2.trans ih.2⟩

theorem keep_out {j : Nat} : ∀ e, (outT xs bs c (j + e)).1 j = (outT xs bs c j).1 j ∧ (outT xs bs c (j + e)).2 j = (outT xs bs c j).2 j := by
  intro e
  induction e with
  | zero => exact ⟨rfl, rfl⟩
  | succ e ih =>
    have h : (outT xs bs c (j + e + 1)).1 j = (outT xs bs c (j + e)).1 j ∧ (outT xs bs c (j + e + 1)).2 j = (outT xs bs c (j + e)).2 j := by
      rw [outT]
      cases (outT xs bs c (j + e)).2 (j + e) with
      | false => exact ⟨rfl, rfl⟩
      | true => exact keep_in (by omega) _ _
    exact ⟨h.1.trans ih.1, h.2.trans ih.2⟩

/-- A task put behind a set that is known. -/
theorem put_out {d i : Nat} (hi : i < xs.length) (hk : (outT xs bs c d).2 d = true) (hs : skipT bs d i = false) :
    (outT xs bs c (d ||| 2 ^ i)).2 (d ||| 2 ^ i) = true ∧ leL ((outT xs bs c (d ||| 2 ^ i)).1 (d ||| 2 ^ i)) (nextT c ((outT xs bs c d).1 d) (xs.getD i 0)) := by
  have hb : d.testBit i = false := by
    unfold skipT at hs
    rw [Bool.or_eq_false_iff] at hs
    exact hs.1
  have hgt := or_gt hb
  have hst : (inT xs bs c d (outT xs bs c d) (i + 1)).2 (d ||| 2 ^ i) = true ∧ leL ((inT xs bs c d (outT xs bs c d) (i + 1)).1 (d ||| 2 ^ i)) (nextT c ((outT xs bs c d).1 d) (xs.getD i 0)) := by
    rw [inT]
    have hkp := keep_in (xs := xs) (bs := bs) (c := c) (Nat.le_refl d) (outT xs bs c d) i
    generalize inT xs bs c d (outT xs bs c d) i = S at *
    unfold stepT
    rw [hs, cond_false, hkp.1]
    generalize d ||| 2 ^ i = t at *
    cases hc : !S.2 t || lessT (nextT c ((outT xs bs c d).1 d) (xs.getD i 0)) (S.1 t) with
    | false =>
      rw [cond_false]
      rw [Bool.or_eq_false_iff] at hc
      refine ⟨by simpa using hc.1, ?_⟩
      have := hc.2
      rw [← Bool.not_eq_true, lessT_iff] at this
      exact Classical.not_not.1 this
    | true =>
      rw [cond_true]
      simp only [upd, if_pos]
      exact ⟨trivial, leL_refl _⟩
  have h1 := low_in (xs := xs) (bs := bs) (c := c) d (outT xs bs c d) (i + 1) (xs.length - (i + 1)) _ hst.1
  rw [show i + 1 + (xs.length - (i + 1)) = xs.length by omega] at h1
  have ho : outT xs bs c (d + 1) = inT xs bs c d (outT xs bs c d) xs.length := by rw [outT, hk, cond_true]
  rw [← ho] at h1
  have h2 := low_out (xs := xs) (bs := bs) (c := c) (d + 1) ((d ||| 2 ^ i) - (d + 1)) _ h1.1
  rw [show d + 1 + ((d ||| 2 ^ i) - (d + 1)) = d ||| 2 ^ i by omega] at h2
  exact ⟨h2.1, leL_trans h2.2 (leL_trans h1.2 hst.2)⟩

theorem loadM_nn (H : LineOk xs bs c) {D : Nat} {a : Nat → Nat} {s : Nat} : ∀ k, k ≤ xs.length → 0 ≤ loadM xs D a k s := by
  intro k
  induction k with
  | zero => intro _; exact Int.le_refl _
  | succ k ih =>
    intro hk
    have := ih (by omega)
    have := H.xb k (by omega)
    unfold loadM
    split <;> omega

theorem upd_self {α : Type} {f : Nat → α} {i : Nat} {v : α} : upd f i v i = v := by unfold upd; rw [if_pos rfl]
theorem upd_ne {α : Type} {f : Nat → α} {i j : Nat} {v : α} (h : j ≠ i) : upd f i v j = f j := by unfold upd; rw [if_neg h]

/-- A task more: the load of its station. -/
theorem loadM_or {D i : Nat} {a : Nat → Nat} {s0 : Nat} (hb : D.testBit i = false) : ∀ k s, loadM xs (D ||| 2 ^ i) (upd a i s0) k s = loadM xs D a k s + (if i < k ∧ s0 = s then xs.getD i 0 else 0) := by
  intro k
  induction k with
  | zero => intro s; simp [loadM]
  | succ k ih =>
    intro s
    unfold loadM
    rw [ih s]
    by_cases e : k = i
    · subst e
      have h1 : (D ||| 2 ^ k).testBit k = true := by rw [Nat.testBit_or, Nat.testBit_two_pow_self, Bool.or_true]
      rw [h1, hb]
      simp only [upd, if_pos, true_and, Nat.lt_irrefl, false_and, if_false, Bool.false_eq_true, Nat.lt_succ_self]
      try omega
    · have h1 : (D ||| 2 ^ i).testBit k = D.testBit k := by rw [Nat.testBit_or, Nat.testBit_two_pow_of_ne (by omega), Bool.or_false]
      have h2 : upd a i s0 k = a k := by simp only [upd]; rw [if_neg e]
      rw [h1, h2]
      have h3 : (i < k ∧ s0 = s) ↔ (i < k + 1 ∧ s0 = s) := ⟨fun h => ⟨by omega, h.2⟩, fun h => ⟨by omega, h.2⟩⟩
      by_cases h4 : i < k ∧ s0 = s
      · rw [if_pos h4, if_pos (h3.1 h4)]
        omega
      · rw [if_neg h4, if_neg (fun h => h4 (h3.2 h))]
        omega

/-- There is such a way. -/
def Sol (xs bs : List Int) (c : Int) (D : Nat) (v : Int × Int) : Prop := ∃ (a : Nat → Nat) (q : Nat), v.1 = (q : Int) ∧ 1 ≤ q ∧ Val xs bs c D a q ∧ loadM xs D a xs.length (q - 1) = v.2

theorem loadM_zero {a : Nat → Nat} : ∀ k s, loadM xs 0 a k s = 0 := by
  intro k
  induction k with
  | zero => intro s; rfl
  | succ k ih => intro s; unfold loadM; rw [ih]; simp

theorem loadM_out {D : Nat} {a : Nat → Nat} {s : Nat} (h : ∀ i, i < xs.length → D.testBit i = true → a i ≠ s) : ∀ k, k ≤ xs.length → loadM xs D a k s = 0 := by
  intro k
  induction k with
  | zero => intro _; rfl
  | succ k ih =>
    intro hk
    unfold loadM
    rw [ih (by omega), if_neg (fun e => h k (by omega) e.1 e.2)]
    rfl

theorem sol_zero (H : LineOk xs bs c) : Sol xs bs c 0 (1, 0) :=
  ⟨fun _ => 0, 1, rfl, Nat.le_refl _, ⟨fun i _ hb => by simp at hb, fun i _ hb => by simp at hb, fun s _ => by rw [loadM_zero]; have := H.cb; omega⟩, loadM_zero _ _⟩

theorem sol_next (H : LineOk xs bs c) {D i : Nat} {v : Int × Int} (hi : i < xs.length) (hD : D < 4096) (h : Sol xs bs c D v) (hs : skipT bs D i = false) : Sol xs bs c (D ||| 2 ^ i) (nextT c v (xs.getD i 0)) := by
  obtain ⟨a, q, hq, hq1, hV, hl⟩ := h
  obtain ⟨hb, hpre⟩ := (skipT_iff H hi hD).1 hs
  have hx := H.xb i hi
  have hbit : ∀ j, (D ||| 2 ^ i).testBit j = true → j = i ∨ (j ≠ i ∧ D.testBit j = true) := fun j hj => by
    by_cases e : j = i
    · exact .inl e
    · rw [Nat.testBit_or, Nat.testBit_two_pow_of_ne (by omega), Bool.or_false] at hj
      exact .inr ⟨e, hj⟩
  have hin : ∀ j, D.testBit j = true → (D ||| 2 ^ i).testBit j = true := fun j hj => by rw [Nat.testBit_or, hj, Bool.true_or]
  -- the new task on a station that is no earlier than the last one
  have hval : ∀ (s0 q' : Nat), q - 1 ≤ s0 → s0 < q' → q ≤ q' → (∀ s, s < q' → loadM xs D a xs.length s + (if s0 = s then xs.getD i 0 else 0) ≤ c) → Val xs bs c (D ||| 2 ^ i) (upd a i s0) q' := by
    intro s0 q' h1 h2 h3 h4
    refine ⟨fun j hj hjb => ?_, fun j hj hjb k hk hkb => ?_, fun s hs => ?_⟩
    · rcases hbit j hjb with rfl | ⟨e, hjb⟩
      · rw [upd_self]; exact h2
      · rw [upd_ne e]
        have := hV.st j hj hjb
        omega
    · rcases hbit j hjb with rfl | ⟨e, hjb⟩
      · have hkD := hpre k hk hkb
        refine ⟨hin k hkD, ?_⟩
        rw [upd_self, upd_ne (by omega)]
        have := hV.st k (by omega) hkD
        omega
      · obtain ⟨g1, g2⟩ := hV.pr j hj hjb k hk hkb
        refine ⟨hin k g1, ?_⟩
        rw [upd_ne e]
        have hki : k ≠ i := fun e2 => by rw [e2, hb] at g1; cases g1
        rw [upd_ne hki]
        exact g2
    · rw [loadM_or hb]
      have := h4 s hs
      by_cases e : s0 = s
      · rw [if_pos ⟨hi, e⟩]; rw [if_pos e] at this; exact this
      · rw [if_neg (fun h => e h.2)]; rw [if_neg e] at this; exact this
  have hll := hV.ld (q - 1) (by omega)
  have hl0 := loadM_nn H (D := D) (a := a) (s := q - 1) xs.length (Nat.le_refl _)
  unfold nextT
  split
  · rename_i hgt
    have hnew : loadM xs D a xs.length q = 0 := loadM_out (fun j hj hjb e => by have := hV.st j hj hjb; omega) _ (Nat.le_refl _)
    refine ⟨upd a i q, q + 1, by simp only; omega, by omega, hval q (q + 1) (by omega) (by omega) (by omega) (fun s hs => ?_), ?_⟩
    · by_cases e : q = s
      · subst e
        rw [if_pos rfl, hnew]
        omega
      · rw [if_neg e]
        have := hV.ld s (by omega)
        omega
    · rw [loadM_or hb, Nat.add_sub_cancel, hnew, if_pos ⟨hi, rfl⟩]
      simp
  · rename_i hgt
    refine ⟨upd a i (q - 1), q, hq, hq1, hval (q - 1) q (by omega) (by omega) (Nat.le_refl _) (fun s hs => ?_), ?_⟩
    · by_cases e : q - 1 = s
      · subst e
        rw [if_pos rfl]
        omega
      · rw [if_neg e]
        have := hV.ld s hs
        omega
    · rw [loadM_or hb, hl, if_pos ⟨hi, rfl⟩]

/-- All that the table knows can be had. -/
theorem sol_out (H : LineOk xs bs c) : ∀ d, d ≤ 2 ^ xs.length → ∀ j, (outT xs bs c d).2 j = true → Sol xs bs c j ((outT xs bs c d).1 j) := by
  have h12 : 2 ^ xs.length ≤ 4096 := Nat.pow_le_pow_right (by decide) H.n12
  intro d
  induction d with
  | zero =>
    intro _ j hj
    unfold outT at *
    simp only [upd] at *
    split at hj
    · rename_i e
      subst e
      rw [if_pos rfl]
      exact sol_zero H
    · cases hj
  | succ d ih =>
    intro hd
    have ih := ih (by omega)
    rw [outT]
    cases hk : (outT xs bs c d).2 d with
    | false => exact ih
    | true =>
      rw [cond_true]
      have hin : ∀ k, k ≤ xs.length → ∀ j, (inT xs bs c d (outT xs bs c d) k).2 j = true → Sol xs bs c j ((inT xs bs c d (outT xs bs c d) k).1 j) := by
        intro k
        induction k with
        | zero => intro _; exact ih
        | succ k ihk =>
          intro hkl j hj
          have ihk := ihk (by omega)
          rw [inT] at hj ⊢
          have hkp := keep_in (xs := xs) (bs := bs) (c := c) (Nat.le_refl d) (outT xs bs c d) k
          have hSd := ihk d (by rw [hkp.2]; exact hk)
          generalize inT xs bs c d (outT xs bs c d) k = S at *
          unfold stepT at hj ⊢
          cases hs : skipT bs d k with
          | true =>
            rw [hs, cond_true] at hj
            exact ihk j hj
          | false =>
            rw [hs, cond_false] at hj
            rw [cond_false]
            have hnx := sol_next H (i := k) (by omega) (by omega) hSd hs
            generalize d ||| 2 ^ k = t at *
            cases hcnd : !S.2 t || lessT (nextT c (S.1 d) (xs.getD k 0)) (S.1 t) with
            | false =>
              rw [hcnd, cond_false] at hj
              exact ihk j hj
            | true =>
              rw [hcnd, cond_true] at hj
              rw [cond_true]
              simp only [upd] at hj ⊢
              split at hj
              · rename_i e
                subst e
                rw [if_pos rfl]
                exact hnx
              · rename_i e
                rw [if_neg e]
                exact ihk j hj
      exact hin _ (Nat.le_refl _)

theorem last_of {D : Nat} {a : Nat → Nat} : ∀ k, (∃ j, j < k ∧ D.testBit j = true) → ∃ i, i < k ∧ D.testBit i = true ∧ ∀ j, j < k → D.testBit j = true → a j < a i ∨ (a j = a i ∧ j ≤ i) := by
  intro k
  induction k with
  | zero => rintro ⟨j, h, _⟩; omega
  | succ k ih =>
    intro hex
    by_cases hprev : ∃ j, j < k ∧ D.testBit j = true
    · obtain ⟨i, hi, hb, hmax⟩ := ih hprev
      by_cases hk : D.testBit k = true ∧ a i ≤ a k
      · refine ⟨k, by omega, hk.1, fun j hj hjb => ?_⟩
        by_cases e : j = k
        · subst e; exact .inr ⟨rfl, Nat.le_refl _⟩
        · have := hmax j (by omega) hjb
          omega
      · refine ⟨i, by omega, hb, fun j hj hjb => ?_⟩
        by_cases e : j = k
        · subst e
          have : ¬ a i ≤ a j := fun h => hk ⟨hjb, h⟩
          exact .inl (by omega)
        · exact hmax j (by omega) hjb
    · obtain ⟨j, hj, hjb⟩ := hex
      have e : j = k := by
        rcases Nat.lt_or_ge j k with h | h
        · exact absurd ⟨j, h, hjb⟩ hprev
        · omega
      subst e
      refine ⟨j, by omega, hjb, fun l hl hlb => ?_⟩
      by_cases e : l = j
      · subst e; exact .inr ⟨rfl, Nat.le_refl _⟩
      · exact absurd ⟨l, by omega, hlb⟩ hprev

theorem some_bit {D n : Nat} (hD : D < 2 ^ n) (h0 : D ≠ 0) : ∃ j, j < n ∧ D.testBit j = true := by
  refine Classical.byContradiction fun h => h0 ?_
  apply Nat.eq_of_testBit_eq
  intro j
  rw [Nat.zero_testBit]
  by_cases hj : j < n
  · cases hb : D.testBit j with
    | false => rfl
    | true => exact absurd ⟨j, hj, hb⟩ h
  · exact Nat.testBit_lt_two_pow (Nat.lt_of_lt_of_le hD (Nat.pow_le_pow_right (by decide) (by omega)))

theorem upd_same {α : Type} {f : Nat → α} {i : Nat} : upd f i (f i) = f := by
  funext j
  unfold upd
  split
  · rename_i e; rw [e]
  · rfl

/-- The table knows the best of all ways. -/
theorem best_out (H : LineOk xs bs c) : ∀ (D : Nat), D < 2 ^ xs.length → ∀ (a : Nat → Nat) (q : Nat), 1 ≤ q → Val xs bs c D a q →
    (outT xs bs c D).2 D = true ∧ leL ((outT xs bs c D).1 D) ((q : Int), loadM xs D a xs.length (q - 1)) := by
  have h12 : 2 ^ xs.length ≤ 4096 := Nat.pow_le_pow_right (by decide) H.n12
  intro D
  induction D using Nat.strongRecOn with
  | ind D ih =>
    intro hD a q hq hV
    by_cases h0 : D = 0
    · subst h0
      rw [loadM_zero]
      unfold outT
      simp only [upd_self]
      refine ⟨trivial, ?_⟩
      unfold leL
      simp only
      omega
    · obtain ⟨i, hi, hib, hmax⟩ := last_of (a := a) xs.length (some_bit hD h0)
      obtain ⟨D', hD'⟩ : ∃ D', D' = D ^^^ 2 ^ i := ⟨_, rfl⟩
      have hb1 : D'.testBit i = false := by rw [hD', Nat.testBit_xor, hib, Nat.testBit_two_pow_self]; rfl
      have hb2 : ∀ j, j ≠ i → D'.testBit j = D.testBit j := fun j hj => by rw [hD', Nat.testBit_xor, Nat.testBit_two_pow_of_ne (by omega), Bool.xor_false]
      have hor : D' ||| 2 ^ i = D := by
        apply Nat.eq_of_testBit_eq
        intro j
        by_cases e : j = i
        · subst e
          rw [Nat.testBit_or, Nat.testBit_two_pow_self, Bool.or_true, hib]
        · rw [Nat.testBit_or, Nat.testBit_two_pow_of_ne (by omega), Bool.or_false, hb2 j e]
      have hlt := or_gt hb1
      rw [hor] at hlt
      have hld : ∀ s, loadM xs D a xs.length s = loadM xs D' a xs.length s + (if i < xs.length ∧ a i = s then xs.getD i 0 else 0) := fun s => by
        have := loadM_or (xs := xs) (a := a) (s0 := a i) hb1 xs.length s
        rw [hor, upd_same] at this
        exact this
      have hx := H.xb i hi
      have hai := hV.st i hi hib
      have hV' : Val xs bs c D' a (a i + 1) := by
        refine ⟨fun j hj hjb => ?_, fun j hj hjb k hk hkb => ?_, fun s hs => ?_⟩
        · have e : j ≠ i := fun e => by rw [e, hb1] at hjb; cases hjb
          rw [hb2 j e] at hjb
          have := hmax j hj hjb
          omega
        · have e : j ≠ i := fun e => by rw [e, hb1] at hjb; cases hjb
          rw [hb2 j e] at hjb
          obtain ⟨g1, g2⟩ := hV.pr j hj hjb k hk hkb
          have e2 : k ≠ i := fun e2 => by
            subst e2
            have := hmax j hj hjb
            omega
          exact ⟨by rw [hb2 k e2]; exact g1, g2⟩
        · have h1 := hV.ld s (by omega)
          have h2 := hld s
          split at h2 <;> omega
      obtain ⟨k1, k2⟩ := ih D' (by omega) (by omega) a (a i + 1) (by omega) hV'
      rw [Nat.add_sub_cancel] at k2
      have hs : skipT bs D' i = false := by
        refine (skipT_iff H hi (by omega)).2 ⟨hb1, fun k hk hkb => ?_⟩
        have := (hV.pr i hi hib k hk hkb).1
        rw [hb2 k (by omega)]
        exact this
      obtain ⟨p1, p2⟩ := put_out (xs := xs) (bs := bs) (c := c) hi k1 hs
      rw [hor] at p1 p2
      refine ⟨p1, ?_⟩
      have hnn := loadM_nn H (D := D') (a := a) (s := a i) xs.length (Nat.le_refl _)
      have hl := hld (a i)
      rw [if_pos ⟨hi, rfl⟩] at hl
      have hc := hV.ld (a i) hai
      obtain ⟨a2, q2, s1, s2, s3, s4⟩ := sol_out H D' (by omega) D' k1
      have hv2 : 0 ≤ ((outT xs bs c D').1 D').2 := by rw [← s4]; exact loadM_nn H _ (Nat.le_refl _)
      have hnx := nextT_mono (c := c) (x := xs.getD i 0) (by omega) hnn hv2 k2 (by omega)
      rw [← hl] at hnx
      refine leL_trans p2 (leL_trans hnx ?_)
      unfold leL
      simp only
      by_cases e : a i + 1 = q
      · subst e
        rw [Nat.add_sub_cancel]
        omega
      · omega

/-- All tasks on so many stations. -/
def Feas (xs bs : List Int) (c : Int) (q : Nat) : Prop := ∃ a, Val xs bs c (2 ^ xs.length - 1) a q

theorem full_bit {n i : Nat} (hi : i < n) : (2 ^ n - 1).testBit i = true := by
  rw [Nat.testBit_two_pow_sub_one]
  simpa using hi

theorem loadM_id (n : Nat) : ∀ k, k ≤ n → ∀ s, loadM xs (2 ^ n - 1) (fun i => i) k s = if s < k then xs.getD s 0 else 0 := by
  intro k
  induction k with
  | zero => intro _ s; simp [loadM]
  | succ k ih =>
    intro hk s
    unfold loadM
    rw [ih (by omega)]
    by_cases e : k = s
    · subst e
      rw [if_neg (by omega), if_pos ⟨full_bit (by omega), rfl⟩, if_pos (by omega)]
      omega
    · by_cases h : s < k
      · rw [if_pos h, if_neg (fun h2 => e h2.2), if_pos (by omega)]; omega
      · rw [if_neg h, if_neg (fun h2 => e h2.2), if_neg (by omega)]; omega

theorem feas_n (H : LineOk xs bs c) : Feas xs bs c xs.length := by
  refine ⟨fun i => i, fun i hi _ => hi, fun i hi _ k hk _ => ⟨full_bit (by omega), Nat.le_of_lt hk⟩, fun s hs => ?_⟩
  rw [loadM_id xs.length xs.length (Nat.le_refl _), if_pos hs]
  exact (H.xb s hs).2

theorem fewT_eq : fewT xs bs c = ((outT xs bs c (2 ^ xs.length - 1)).1 (2 ^ xs.length - 1)).1 := by
  unfold fewT
  have h1 : 1 ≤ 2 ^ xs.length := Nat.one_le_two_pow
  have := (keep_out (xs := xs) (bs := bs) (c := c) (j := 2 ^ xs.length - 1) 1).1
  rw [show 2 ^ xs.length - 1 + 1 = 2 ^ xs.length by omega] at this
  rw [this]

/-- The table's number can be had .. -/
theorem few_feas (H : LineOk xs bs c) : ∃ q : Nat, fewT xs bs c = (q : Int) ∧ 1 ≤ q ∧ q ≤ xs.length ∧ Feas xs bs c q := by
  have h1 : 1 ≤ 2 ^ xs.length := Nat.one_le_two_pow
  obtain ⟨a, ha⟩ := feas_n H
  have hb := best_out H (2 ^ xs.length - 1) (by omega) a xs.length H.n1 ha
  obtain ⟨a2, q, s1, s2, s3, s4⟩ := sol_out H (2 ^ xs.length - 1) (by omega) _ hb.1
  refine ⟨q, by rw [fewT_eq]; exact s1, s2, ?_, a2, s3⟩
  have := hb.2
  unfold leL at this
  rw [s1] at this
  simp only at this
  omega

/-- .. and no fewer. -/
theorem few_le (H : LineOk xs bs c) {q : Nat} (hq : 1 ≤ q) (h : Feas xs bs c q) : fewT xs bs c ≤ (q : Int) := by
  have h1 : 1 ≤ 2 ^ xs.length := Nat.one_le_two_pow
  obtain ⟨a, ha⟩ := h
  have hb := (best_out H (2 ^ xs.length - 1) (by omega) a q hq ha).2
  rw [fewT_eq]
  unfold leL at hb
  simp only at hb
  omega

end

end Go.Proofs.Ytgcmklniacjcfaa.Ls
