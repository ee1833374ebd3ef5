/-
  What impl.EndsDrawn and spec.EndsDrawn compute, over plain values. No condition.
-/
import Derived.Test.YtmdicmdodbndgaaFwV
namespace Go.Proofs.Ytmdicmdodbndgaa.Ed
open Go Go.Proofs.Ytmdicmdodbndgaa Go.Proofs.Ytmdicmdodbndgaa.Fw
set_option linter.unusedVariables false
set_option linter.unusedSimpArgs false

abbrev Tk := Int × Int × List Int × List Int
def tkD : Tk := (0, 0, [], [])

/-- Are the two factors such? -/
def gdI (lo hi : Option Nat) : Bool := fcmp .geq .f32 lo (toF .f32 0) && (fcmp .leq .f32 lo (toF .f32 1065353216) && (fcmp .geq .f32 hi (toF .f32 1065353216) && (fcmp .leq .f32 hi (toF .f32 1082130432) && fcmp .lss .f32 lo hi)))

/-- The factor in thousandths. -/
def milT (x : Option Nat) : Option (Nat × Nat × Int) :=
  match x with
  | none => none
  | some b => match fbits .mul .f32 b 1148846080 with
    | none => none
    | some m => match (Ieee.single.read m).toInt .zero with
      | none => none
      | some z => cond (decide (-1000000000 ≤ z) && (decide (z ≤ 1000000000) && (toF .f32 m == some m))) (some (b, m, z)) none

/-- A time drawn anew. -/
def timeT (x : Option Nat) (t : Int) : Option Int :=
  match milT x with
  | none => none
  | some r => cond (decide (0 ≤ t) && decide (t ≤ 1000000)) (some (Int.tdiv (r.2.2 * t) 1000)) none

abbrev DrawF := Option Nat → Option Nat → Option Nat → Int → Option (Option Nat × Int × Unit)

/-- The times of the first k tasks. -/
def dT (fD : DrawF) (lo hi : Option Nat) (list : List Tk) : Nat → Int → Option (List Int × Int)
  | 0, sd => some ([], sd)
  | k + 1, sd => Option.bind (dT fD lo hi list k sd) fun r => Option.bind (fD lo (toF .f32 1065353216) hi r.2) fun q => Option.bind (timeT q.1 (list.getD k tkD).1) fun z => some (r.1 ++ [z], q.2.1)

def zipT (list : List Tk) (tms : List Int) : List Tk := (List.range list.length).map fun j => (tms.getD j 0, (list.getD j tkD).2)

def cntT (often sl : List Int) : Nat → List Int
  | 0 => often
  | k + 1 => cond (sl.getD k 0 == 0) ((cntT often sl k).set k (often.getD k 0 + 1)) (cntT often sl k)

def okO (often : List Int) : Bool := often.all fun v => decide (0 ≤ v) && decide (v ≤ 1000000)

/-- The seed, the ends, how often no task has slack. -/
abbrev ES := Int × List Int × List Int

def turnT (fD : DrawF) (fE : List Tk → Option (List Int × Unit)) (fL : List Tk → List Int → Option (Int × Unit)) (fK : List Tk → Option (List Int × Unit)) (lo hi : Option Nat) (list : List Tk) (S : ES) : Option ES :=
  Option.bind (dT fD lo hi list list.length S.1) fun d => Option.bind (fE (zipT list d.1)) fun s => cond (decide (s.1.length = list.length)) (Option.bind (fL (zipT list d.1) s.1) fun e => Option.bind (fK (zipT list d.1)) fun sl =>
    cond (decide (sl.1.length = list.length) && (okO S.2.2 && decide (S.2.1.length ≤ 900))) (some (d.2, S.2.1 ++ [e.1], cntT S.2.2 sl.1 list.length)) none) none

def turnsT (fD : DrawF) (fE : List Tk → Option (List Int × Unit)) (fL : List Tk → List Int → Option (Int × Unit)) (fK : List Tk → Option (List Int × Unit)) (lo hi : Option Nat) (list : List Tk) : Nat → ES → Option ES
  | 0, S => some S
  | k + 1, S => Option.bind (turnT fD fE fL fK lo hi list S) (turnsT fD fE fL fK lo hi list k)

def shT (ct : Int) (often : List Int) : Nat → Option (List Nat)
  | 0 => some []
  | k + 1 => Option.bind (shT ct often k) fun l => match fbits .quo .f32 (FloatKind.nearest .f32 (often.getD k 0)) (FloatKind.nearest .f32 ct) with
    | none => none
    | some r => cond (toF .f32 r == some r) (some (l ++ [r])) none

def noE : Option (List Int × List (Option Nat) × Int × Bool × Unit) := some ([], [], 0, false, ())

def edF (fA : List Tk → Option (Bool × Unit)) (fS : Int → Option (Bool × Unit)) (fW : Int → Int → Int → Option (Bool × Unit)) (fD : DrawF) (fE : List Tk → Option (List Int × Unit)) (fL : List Tk → List Int → Option (Int × Unit)) (fK : List Tk → Option (List Int × Unit)) (list : List Tk) (lo hi : Option Nat) (sd ct : Int) : Option (List Int × List (Option Nat) × Int × Bool × Unit) :=
  Option.bind (fA list) fun a => cond a.1 (cond (gdI lo hi) (Option.bind (fS sd) fun s => cond s.1 (Option.bind (fW ct 1 64) fun c => cond c.1
    (cond (decide (1 ≤ list.length) && (decide (list.length ≤ 900) && (decide (0 ≤ ct) && decide (ct ≤ 1000)))) (Option.bind (turnsT fD fE fL fK lo hi list ct.toNat (sd, [], List.replicate list.length 0)) fun r => Option.bind (shT ct r.2.2 list.length) fun sh => some (r.2.1, sh.map some, r.1, true, ())) none) noE) noE) noE) noE

theorem dT_len {fD : DrawF} {lo hi : Option Nat} {list : List Tk} : ∀ {k : Nat} {sd : Int} {r : List Int × Int}, dT fD lo hi list k sd = some r → r.1.length = k
  | 0, sd, r, h => by cases h; rfl
  | k + 1, sd, r, h => by
    obtain ⟨r1, h1, h⟩ := Option.bind_eq_some_iff.1 h
    obtain ⟨q, h2, h⟩ := Option.bind_eq_some_iff.1 h
    obtain ⟨z, h3, h⟩ := Option.bind_eq_some_iff.1 h
    cases h
    simp [dT_len h1]

theorem zipT_length (list : List Tk) (tms : List Int) : (zipT list tms).length = list.length := by simp [zipT]

theorem zipT_getD (list : List Tk) (tms : List Int) {j : Nat} (hj : j < list.length) : (zipT list tms).getD j tkD = (tms.getD j 0, (list.getD j tkD).2) := by
  unfold zipT
  rw [List.getD_eq_getElem?_getD, List.getElem?_map, List.getElem?_range hj]
  rfl

theorem cntT_length (often sl : List Int) : ∀ k, (cntT often sl k).length = often.length
  | 0 => rfl
  | k + 1 => by
    unfold cntT
    cases sl.getD k 0 == 0 <;> simp [cntT_length often sl k]

theorem cntT_ge (often sl : List Int) : ∀ k j, k ≤ j → (cntT often sl k).getD j 0 = often.getD j 0
  | 0, j, _ => rfl
  | k + 1, j, h => by
    unfold cntT
    cases sl.getD k 0 == 0 with
    | false => exact cntT_ge often sl k j (by omega)
    | true =>
      rw [cond_true, List.getD_eq_getElem?_getD, List.getElem?_set_ne (by omega), ← List.getD_eq_getElem?_getD]
      exact cntT_ge often sl k j (by omega)

end Go.Proofs.Ytmdicmdodbndgaa.Ed
