/-
  Rules for floats: rounding keeps a number within bounds. No condition.
-/
import Derived.Test.YtmdicmdodbndgaaFwU
import Derived.Test.YtmdicmdodbndgaaFwV
namespace Go.Proofs.Ytmdicmdodbndgaa
open Go Go.Proofs.Ytmdicmdodbndgaa.Fw
set_option linter.unusedVariables false
set_option linter.unusedSimpArgs false

theorem cut_zero (g : Bool) (n : Nat) : Ieee.Toward.even.cut g n 0 = n := by
  unfold Ieee.Toward.cut
  have : (1 : Nat) <<< min 0 (n.log2 + 2) = 1 := by rw [Nat.zero_min]; rfl
  simp only [this, Nat.div_one, Nat.mod_one]
  rfl

theorem cut_le (g : Bool) (n d e : Nat) (h : n < 2 ^ (d + e)) : Ieee.Toward.even.cut g n d ≤ 2 ^ e := by
  unfold Ieee.Toward.cut
  have hn : n < 2 ^ (n.log2 + 1) := Nat.lt_log2_self
  generalize hgap : (1 : Nat) <<< min d (n.log2 + 2) = gap
  rw [Nat.shiftLeft_eq, Nat.one_mul] at hgap
  have hpos : 0 < gap := by rw [← hgap]; exact Nat.pow_pos (by omega)
  have hlow : n / gap + 1 ≤ 2 ^ e := by
    by_cases hd : d ≤ n.log2 + 2
    · rw [Nat.min_eq_left hd] at hgap
      have : n / gap < 2 ^ e := by
        rw [Nat.div_lt_iff_lt_mul hpos, ← hgap, ← Nat.pow_add, Nat.add_comm e d]
        exact h
      omega
    · rw [Nat.min_eq_right (by omega)] at hgap
      have : n / gap = 0 := by
        refine Nat.div_eq_of_lt ?_
        rw [← hgap]
        exact Nat.lt_of_lt_of_le hn (Nat.pow_le_pow_right (by omega) (by omega))
      rw [this]
      exact Nat.pow_pos (by omega)
  have hb : ∀ b : Bool, b.toNat ≤ 1 := fun b => by cases b <;> decide
  refine Nat.le_trans (Nat.add_le_add_left (hb _) _) hlow

/-- A positive number written and read again: it stays a positive number, and grows by one binade at most. -/
theorem near {f : Ieee.Format} {fb B I : Nat} {L W : Int} (hfb : f.fractionBits = fb) (hB : f.binade = B) (hB2 : B = 2 ^ fb) (hL : f.leastPlace = L) (hI : f.infRung = I) (hS : I < f.signWeight) (hBI : B ≤ I)
    {m : Nat} {p : Int} (hW : m = 0 ∨ p + (m.log2 : Int) ≤ W) (hLW : L + fb ≤ W) (hcap : ((W - fb - L).toNat + 2) * B < I) :
    ∃ m' p', f.read (f.nearest false m p) = .number false m' p' ∧ m' < 2 * B ∧ p' + fb ≤ W + 1 := by
  have hBpos : 0 < B := by rw [hB2]; exact Nat.pow_pos (by omega)
  have key : ∀ r : Nat, r ≤ ((W - fb - L).toNat + 2) * B → ∃ m' p', f.read (f.word false r) = .number false m' p' ∧ m' < 2 * B ∧ p' + fb ≤ W + 1 := fun r hr => by
    have hrI : r < I := by omega
    unfold Ieee.Format.word Ieee.Format.read
    simp only [Bool.false_eq_true, if_false]
    rw [Nat.mod_eq_of_lt (show r < f.signWeight by omega), Nat.div_eq_of_lt (show r < f.signWeight by omega), hB, hI, hL]
    by_cases h1 : r < B
    · rw [if_pos h1]
      exact ⟨_, _, rfl, by omega, by omega⟩
    · rw [if_neg h1, if_pos hrI]
      refine ⟨_, _, rfl, ?_, ?_⟩
      · have := Nat.mod_lt r hBpos
        omega
      · have hq : r / B ≤ (W - fb - L).toNat + 2 := Nat.div_le_of_le_mul (by rw [Nat.mul_comm]; exact hr)
        omega
  unfold Ieee.Format.nearest
  by_cases hm : m = 0
  · rw [if_pos hm]
    exact key 0 (Nat.zero_le _)
  · rw [if_neg hm]
    have hW := hW.resolve_left hm
    have hl2 : m < 2 ^ (m.log2 + 1) := Nat.lt_log2_self
    rw [hfb, hL, hB, hI]
    obtain ⟨last, hlast⟩ : ∃ last, last = max (p + (m.log2 : Int) - fb) L := ⟨_, rfl⟩
    have e : (max (p + (m.log2 : Int) - (fb : Int)) L) = last := hlast.symm
    simp only [e]
    have h1 : p + (m.log2 : Int) - fb ≤ last := by omega
    have h2 : L ≤ last := by omega
    have h3 : last ≤ W - fb := by omega
    have hk : Ieee.Toward.even.cut false (m <<< (p - last).toNat) (last - p).toNat ≤ 2 * B := by
      have h2B : 2 * B = 2 ^ (fb + 1) := by rw [hB2, Nat.pow_succ, Nat.mul_comm]
      rw [h2B]
      refine cut_le _ _ _ _ ?_
      rw [Nat.shiftLeft_eq]
      have a1 : m * 2 ^ (p - last).toNat < 2 ^ (m.log2 + 1) * 2 ^ (p - last).toNat := Nat.mul_lt_mul_of_pos_right hl2 (Nat.pow_pos (by omega))
      rw [← Nat.pow_add] at a1
      exact Nat.lt_of_lt_of_le a1 (Nat.pow_le_pow_right (by omega) (by omega))
    refine key _ (Nat.le_trans (Nat.min_le_left _ _) ?_)
    have hq : (last - L).toNat ≤ (W - fb - L).toNat := by omega
    have := Nat.mul_le_mul_right B hq
    rw [Nat.add_mul]
    omega

theorem nearD {m : Nat} {p W : Int} (hW : m = 0 ∨ p + (m.log2 : Int) ≤ W) (h1 : -1022 ≤ W) (h2 : W ≤ 900) : ∃ m' p', Ieee.double.read (Ieee.double.nearest false m p) = .number false m' p' ∧ m' < 9007199254740992 ∧ p' + 52 ≤ W + 1 := by
  have := near (f := Ieee.double) (fb := 52) (B := 4503599627370496) (I := 9218868437227405312) (L := -1074) (W := W) rfl rfl rfl rfl rfl (by decide) (by decide) hW (by omega) (by
    have : (W - (52 : Nat) - -1074).toNat ≤ 1922 := by omega
    have := Nat.mul_le_mul_right 4503599627370496 (Nat.add_le_add_right this 2)
    omega)
  exact this

theorem nearS {m : Nat} {p W : Int} (hW : m = 0 ∨ p + (m.log2 : Int) ≤ W) (h1 : -126 ≤ W) (h2 : W ≤ 110) : ∃ m' p', Ieee.single.read (Ieee.single.nearest false m p) = .number false m' p' ∧ m' < 16777216 ∧ p' + 23 ≤ W + 1 := by
  have := near (f := Ieee.single) (fb := 23) (B := 8388608) (I := 2139095040) (L := -149) (W := W) rfl rfl rfl rfl rfl (by decide) (by decide) hW (by omega) (by
    have : (W - (23 : Nat) - -149).toNat ≤ 236 := by omega
    have := Nat.mul_le_mul_right 8388608 (Nat.add_le_add_right this 2)
    omega)
  exact this

theorem log_lt {m n : Nat} (h : m < 2 ^ n) (hm : m ≠ 0) : m.log2 < n := (Nat.log2_lt hm).2 h

/-- What a 32-bit word's number looks like. -/
theorem read_single {x m : Nat} {g : Bool} {e : Int} (h : Ieee.single.read x = .number g m e) : m < 16777216 ∧ -149 ≤ e ∧ e ≤ 104 := by
  unfold Ieee.Format.read at h
  rw [show Ieee.single.binade = 8388608 from rfl, show Ieee.single.infRung = 2139095040 from rfl, show Ieee.single.leastPlace = -149 from rfl] at h
  simp only at h
  generalize x % Ieee.single.signWeight = r at h
  split at h
  · injection h with h1 h2 h3
    omega
  · split at h
    · injection h with h1 h2 h3
      omega
    · split at h <;> cases h

theorem root_le (n : Nat) : ∀ (todo r : Nat) (b : Nat), r + 2 ^ todo ≤ b → Ieee.Datum.rootFrom n todo r ≤ b
  | 0, r, b, h => by
    unfold Ieee.Datum.rootFrom
    omega
  | todo + 1, r, b, h => by
    unfold Ieee.Datum.rootFrom
    simp only
    have h2 : (1 : Nat) <<< todo = 2 ^ todo := by rw [Nat.shiftLeft_eq, Nat.one_mul]
    have h3 : 2 ^ (todo + 1) = 2 ^ todo + 2 ^ todo := by rw [Nat.pow_succ]; omega
    rw [h2]
    split
    · exact root_le n todo _ b (by omega)
    · exact root_le n todo _ b (by have := Nat.pow_pos (n := todo) (show 0 < 2 by omega); omega)

/-- The root of a positive number: a positive number of half the size. -/
theorem root_ok {m : Nat} {p W : Int} (hW : m = 0 ∨ p + (m.log2 : Int) ≤ W) : ∃ m' p', (Ieee.Datum.number false m p).root 54 = some (.number false m' p') ∧ (m' = 0 ∨ p' + (m'.log2 : Int) ≤ W / 2 + 4) := by
  unfold Ieee.Datum.root
  dsimp only
  by_cases hm : m = 0
  · rw [if_pos hm]
    exact ⟨_, _, rfl, .inl hm⟩
  · have hW := hW.resolve_left hm
    simp only [if_neg hm, Bool.false_eq_true, if_false]
    obtain ⟨more, hmore⟩ : ∃ more, more = 2 * 54 - m.log2 + ((p - ((2 * 54 - m.log2 : Nat) : Int)) % 2).toNat := ⟨_, rfl⟩
    rw [← hmore]
    obtain ⟨n, hn⟩ : ∃ n, n = m <<< more := ⟨_, rfl⟩
    rw [← hn]
    refine ⟨_, _, rfl, .inr ?_⟩
    have hn0 : n ≠ 0 := by
      rw [hn, Nat.shiftLeft_eq]
      have : 0 < 2 ^ more := Nat.pow_pos (by omega)
      exact Nat.mul_ne_zero hm (by omega)
    have hnl : n.log2 ≤ m.log2 + more := by
      have h1 : n < 2 ^ (m.log2 + more + 1) := by
        rw [hn, Nat.shiftLeft_eq, show m.log2 + more + 1 = (m.log2 + 1) + more by omega, Nat.pow_add]
        exact Nat.mul_lt_mul_of_pos_right Nat.lt_log2_self (Nat.pow_pos (by omega))
      have := log_lt h1 hn0
      omega
    have hr := root_le n (n.log2 / 2 + 1) 0 (2 ^ (n.log2 / 2 + 1)) (by omega)
    obtain ⟨whole, hw⟩ : ∃ whole, whole = Ieee.Datum.rootFrom n (n.log2 / 2 + 1) 0 := ⟨_, rfl⟩
    rw [← hw] at hr ⊢
    have hb : ∀ b : Bool, b.toNat ≤ 1 := fun b => by cases b <;> decide
    have hbb := hb (whole * whole != n)
    generalize hM : 2 * whole + (whole * whole != n).toNat = M
    have hM2 : M < 2 ^ (n.log2 / 2 + 3) := by
      have e1 : 2 ^ (n.log2 / 2 + 3) = 4 * 2 ^ (n.log2 / 2 + 1) := by rw [show n.log2 / 2 + 3 = (n.log2 / 2 + 1) + 2 by omega, Nat.pow_add]; omega
      have : 0 < 2 ^ (n.log2 / 2 + 1) := Nat.pow_pos (by omega)
      omega
    have hlM : M.log2 ≤ n.log2 / 2 + 2 := by
      by_cases h0 : M = 0
      · subst h0
        simp
      · have := log_lt hM2 h0
        omega
    omega

def fin32 (a : Option Nat) : Bool := fcmp .eql .f32 (farith .sub .f32 a a) (toF .f32 0)

/-- Not negative, no NaN. -/
def NonNeg (a : Option Nat) : Prop := ∃ x, a = some x ∧ ((∃ m e, Ieee.single.read x = .number false m e) ∨ Ieee.single.read x = .infinity false)

theorem toF_num {k : FloatKind} {x m : Nat} {g : Bool} {e : Int} (h : k.format.read x = .number g m e) : toF k x = some x := by
  unfold toF FloatKind.decode
  rw [h]
  rfl

theorem toF_inf {k : FloatKind} {x : Nat} {g : Bool} (h : k.format.read x = .infinity g) : toF k x = some x := by
  unfold toF FloatKind.decode
  rw [h]
  rfl

theorem inf_single : Ieee.single.read (Ieee.single.write (.infinity false)) = .infinity false := by decide +kernel
theorem inf_double : Ieee.double.read (Ieee.double.write (.infinity false)) = .infinity false := by decide +kernel

/-- What a finite one looks like. -/
theorem fin_read {a : Option Nat} (h : fin32 a = true) : ∃ x g m e, a = some x ∧ Ieee.single.read x = .number g m e := by
  cases a with
  | none => exact absurd h (by decide +kernel)
  | some x =>
    cases hd : Ieee.single.read x with
    | number g m e => exact ⟨x, g, m, e, rfl, hd⟩
    | nan s t =>
      exfalso
      have hn : fbits .sub .f32 x x = none := fbits_nan (.inl (toF_nan (k := .f32) hd))
      unfold fin32 farith at h
      dsimp only at h
      rw [hn] at h
      exact absurd h (by decide +kernel)
    | infinity s =>
      exfalso
      have hn : fbits .sub .f32 x x = none := by
        show ((Ieee.single.read x).sum (Ieee.single.read x).opposite).map _ = none
        rw [hd]
        cases s <;> rfl
      unfold fin32 farith at h
      dsimp only at h
      rw [hn] at h
      exact absurd h (by decide +kernel)

theorem zero_read : Ieee.single.read 0 = .number false 0 (-149) := by decide +kernel
theorem zero_toF : toF .f32 0 = some 0 := by decide +kernel
theorem zero_nn : NonNeg (toF .f32 0) := ⟨0, zero_toF, .inl ⟨_, _, zero_read⟩⟩

/-- The order of a finite number to zero. -/
theorem cmp_zero {x m : Nat} {g : Bool} {e : Int} (h : Ieee.single.read x = .number g m e) : forder .f32 (some x) (toF .f32 0) = some (compare (Ieee.signed g m (e - min e (-149)).toNat) 0) := by
  rw [zero_toF]
  show (Ieee.single.read x).order (Ieee.single.read 0) = _
  rw [h, zero_read]
  show some (compare (Ieee.signed g m (e - min e (-149)).toNat) (Ieee.signed false 0 _)) = _
  simp [Ieee.signed]

theorem lss_geq {a : Option Nat} (h : fin32 a = true) : fcmp .lss .f32 a (toF .f32 0) = !fcmp .geq .f32 a (toF .f32 0) := by
  obtain ⟨x, g, m, e, rfl, hr⟩ := fin_read h
  unfold fcmp
  simp only [cmp_zero hr]
  cases compare (Ieee.signed g m (e - min e (-149)).toNat) 0 <;> rfl

theorem add_nn {s a : Option Nat} (hs : NonNeg s) (ha : fin32 a = true) (hg : fcmp .geq .f32 a (toF .f32 0) = true) : NonNeg (farith .add .f32 s a) := by
  obtain ⟨x, g, m, e, rfl, hr⟩ := fin_read ha
  obtain ⟨y, rfl, hy⟩ := hs
  have hsg : 0 ≤ Ieee.signed g m (e - min e (-149)).toNat := by
    unfold fcmp at hg
    simp only [cmp_zero hr] at hg
    rcases Int.lt_trichotomy (Ieee.signed g m (e - min e (-149)).toNat) 0 with h | h | h
    · rw [show compare (Ieee.signed g m (e - min e (-149)).toNat) 0 = .lt from by
        show compareOfLessAndEq _ _ = _
        unfold compareOfLessAndEq
        rw [if_pos h]] at hg
      exact absurd hg (by decide)
    · omega
    · omega
  have hgm : g = false ∨ m = 0 := by
    cases g with
    | false => exact .inl rfl
    | true =>
      refine .inr ?_
      unfold Ieee.signed at hsg
      rw [if_pos rfl] at hsg
      have : m <<< (e - min e (-149)).toNat = 0 := by
        generalize m <<< (e - min e (-149)).toNat = z at hsg
        omega
      rw [Nat.shiftLeft_eq] at this
      rcases Nat.mul_eq_zero.1 this with h | h
      · exact h
      · have : 0 < 2 ^ (e - min e (-149)).toNat := Nat.pow_pos (by omega)
        omega
  have hsgn : ∀ up, 0 ≤ Ieee.signed g m up := fun up => by
    rcases hgm with rfl | rfl
    · unfold Ieee.signed
      rw [if_neg (by simp)]
      exact Int.natCast_nonneg _
    · unfold Ieee.signed
      rw [Nat.zero_shiftLeft]
      split <;> simp
  rcases hy with ⟨m1, e1, hy⟩ | hy
  · have hsum : ∃ M P, (Ieee.single.read y).sum (Ieee.single.read x) = some (.number false M P) := by
      rw [hy, hr]
      refine ⟨(Ieee.signed false m1 (e1 - min e1 e).toNat + Ieee.signed g m (e - min e1 e).toNat).natAbs, min e1 e, ?_⟩
      show some (Ieee.Datum.number (if Ieee.signed false m1 (e1 - min e1 e).toNat + Ieee.signed g m (e - min e1 e).toNat = 0 then false && g else decide (Ieee.signed false m1 (e1 - min e1 e).toNat + Ieee.signed g m (e - min e1 e).toNat < 0)) _ _) = _
      have h1 : 0 ≤ Ieee.signed false m1 (e1 - min e1 e).toNat := by
        unfold Ieee.signed
        rw [if_neg (by simp)]
        exact Int.natCast_nonneg _
      have h2 := hsgn (e - min e1 e).toNat
      have : (if Ieee.signed false m1 (e1 - min e1 e).toNat + Ieee.signed g m (e - min e1 e).toNat = 0 then false && g else decide (Ieee.signed false m1 (e1 - min e1 e).toNat + Ieee.signed g m (e - min e1 e).toNat < 0)) = false := by
        split
        · rfl
        · exact decide_eq_false (by omega)
      rw [this]
    obtain ⟨M, P, hsum⟩ := hsum
    have hbits : fbits .add .f32 y x = some (Ieee.single.nearest false M P) := by
      show ((Ieee.single.read y).sum (Ieee.single.read x)).map Ieee.single.write = _
      rw [hsum]
      rfl
    have hword : ∃ r, Ieee.single.nearest false M P = r ∧ r ≤ 2139095040 := by
      unfold Ieee.Format.nearest Ieee.Format.word
      split
      · exact ⟨_, rfl, by simp⟩
      · refine ⟨_, rfl, ?_⟩
        simp only [Bool.false_eq_true, if_false]
        exact Nat.min_le_right _ _
    obtain ⟨r, hr1, hr2⟩ := hword
    have hread : (∃ m e, Ieee.single.read r = .number false m e) ∨ Ieee.single.read r = .infinity false := by
      unfold Ieee.Format.read
      rw [show Ieee.single.signWeight = 2147483648 from rfl, show Ieee.single.binade = 8388608 from rfl, show Ieee.single.infRung = 2139095040 from rfl]
      simp only [Nat.mod_eq_of_lt (show r < 2147483648 by omega), Nat.div_eq_of_lt (show r < 2147483648 by omega)]
      split
      · exact .inl ⟨_, _, rfl⟩
      · split
        · exact .inl ⟨_, _, rfl⟩
        · rw [if_pos (by omega)]
          exact .inr rfl
    refine ⟨r, ?_, hread⟩
    unfold farith
    dsimp only
    rw [hbits, hr1]
    rcases hread with ⟨m', e', h⟩ | h
    · exact toF_num (k := .f32) h
    · exact toF_inf (k := .f32) h
  · refine ⟨Ieee.single.write (.infinity false), ?_, .inr inf_single⟩
    have hbits : fbits .add .f32 y x = some (Ieee.single.write (.infinity false)) := by
      show ((Ieee.single.read y).sum (Ieee.single.read x)).map Ieee.single.write = _
      rw [hy, hr]
      rfl
    unfold farith
    dsimp only
    rw [hbits]
    exact toF_inf (k := .f32) inf_single

/-- A root of a 32-bit number that is not negative: all three steps yield. -/
theorem root_chain {a : Option Nat} (h : NonNeg a) : ∃ x r q v, a = some x ∧ fconv .f32 x .f64 = some r ∧ toF .f64 r = some r ∧ FloatKind.f64.format.sqrt r = some q ∧ toF .f64 q = some q ∧ fconv .f64 q .f32 = some v := by
  obtain ⟨x, rfl, hx⟩ := h
  rcases hx with ⟨m, e, hx⟩ | hx
  · obtain ⟨b1, b2, b3⟩ := read_single hx
    have hl : m = 0 ∨ e + (m.log2 : Int) ≤ 127 := by
      by_cases h0 : m = 0
      · exact .inl h0
      · have := log_lt (n := 24) b1 h0
        exact .inr (by omega)
    obtain ⟨m2, p2, r2, c1, c2⟩ := nearD hl (by omega) (by omega)
    have hl2 : m2 = 0 ∨ p2 + (m2.log2 : Int) ≤ 128 := by
      by_cases h0 : m2 = 0
      · exact .inl h0
      · have := log_lt (n := 53) c1 h0
        exact .inr (by omega)
    obtain ⟨m3, p3, r3, d1⟩ := root_ok hl2
    obtain ⟨m4, p4, r4, f1, f2⟩ := nearD (m := m3) (p := p3) (W := 68) (by rcases d1 with h | h; exact .inl h; exact .inr (by omega)) (by omega) (by omega)
    have hl4 : m4 = 0 ∨ p4 + (m4.log2 : Int) ≤ 69 := by
      by_cases h0 : m4 = 0
      · exact .inl h0
      · have := log_lt (n := 53) f1 h0
        exact .inr (by omega)
    obtain ⟨m5, p5, r5, _, _⟩ := nearS hl4 (by omega) (by omega)
    refine ⟨x, Ieee.double.nearest false m e, Ieee.double.nearest false m3 p3, Ieee.single.nearest false m4 p4, rfl, ?_, toF_num (k := .f64) r2, ?_, toF_num (k := .f64) r4, ?_⟩
    · unfold fconv
      rw [show FloatKind.f32.decode x = .number false m e from hx]
      dsimp only
      rw [show (FloatKind.f64.decode (FloatKind.f64.encode (.number false m e))).isInfinity = false from by
        show (Ieee.double.read (Ieee.double.nearest false m e)).isInfinity = false
        rw [r2]
        rfl]
      rfl
    · show ((Ieee.double.read (Ieee.double.nearest false m e)).root 54).map Ieee.double.write = _
      rw [r2, r3]
      rfl
    · unfold fconv
      rw [show FloatKind.f64.decode (Ieee.double.nearest false m3 p3) = .number false m4 p4 from r4]
      dsimp only
      rw [show (FloatKind.f32.decode (FloatKind.f32.encode (.number false m4 p4))).isInfinity = false from by
        show (Ieee.single.read (Ieee.single.nearest false m4 p4)).isInfinity = false
        rw [r5]
        rfl]
      rfl
  · refine ⟨x, Ieee.double.write (.infinity false), Ieee.double.write (.infinity false), Ieee.single.write (.infinity false), rfl, ?_, toF_inf (k := .f64) inf_double, ?_, toF_inf (k := .f64) inf_double, ?_⟩
    · unfold fconv
      rw [show FloatKind.f32.decode x = .infinity false from hx]
      rfl
    · show ((Ieee.double.read (Ieee.double.write (.infinity false))).root 54).map Ieee.double.write = _
      rw [inf_double]
      rfl
    · unfold fconv
      rw [show FloatKind.f64.decode (Ieee.double.write (.infinity false)) = .infinity false from inf_double]
      rfl

/-- A 32-bit number as a 64-bit one: always. -/
theorem widen_ok {x : Nat} (h : toF .f32 x = some x) : ∃ r, fconv .f32 x .f64 = some r := by
  unfold fconv
  cases hd : FloatKind.f32.decode x with
  | nan s t => rw [toF_nan (k := .f32) hd] at h; cases h
  | infinity g => exact ⟨_, rfl⟩
  | number g m e =>
    dsimp only
    have hx : Ieee.single.read x = .number g m e := hd
    obtain ⟨b1, b2, b3⟩ := read_single hx
    have hl : m = 0 ∨ e + (m.log2 : Int) ≤ 127 := by
      by_cases h0 : m = 0
      · exact .inl h0
      · have := log_lt (n := 24) b1 h0
        exact .inr (by omega)
    obtain ⟨m2, p2, r2, _, _⟩ := nearD hl (by omega) (by omega)
    have hsign : (Ieee.double.read (Ieee.double.nearest g m e)).isInfinity = false := by
      cases g with
      | false => rw [r2]; rfl
      | true =>
        have e1 : Ieee.double.nearest true m e = 9223372036854775808 + Ieee.double.nearest false m e := by
          unfold Ieee.Format.nearest Ieee.Format.word
          split <;> simp <;> rfl
        have hlt : Ieee.double.nearest false m e < 9223372036854775808 := by
          unfold Ieee.Format.nearest Ieee.Format.word
          split
          · simp
          · simp only [Bool.false_eq_true, if_false]
            exact Nat.lt_of_le_of_lt (Nat.min_le_right _ _) (by decide)
        have e2 : ∀ r, r < 9223372036854775808 → (Ieee.double.read (9223372036854775808 + r)).isInfinity = (Ieee.double.read r).isInfinity := fun r hr => by
          unfold Ieee.Format.read
          rw [show Ieee.double.signWeight = 9223372036854775808 from rfl]
          simp only [Nat.add_mod_left]
          split
          · rfl
          · split
            · rfl
            · split <;> rfl
        rw [e1, e2 _ hlt, r2]
        rfl
    rw [show (FloatKind.f64.decode (FloatKind.f64.encode (.number g m e))).isInfinity = false from hsign]
    exact ⟨_, rfl⟩

end Go.Proofs.Ytmdicmdodbndgaa
