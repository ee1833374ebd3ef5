/-
  The plain functions of this seat, printed by a program, each equal to the evaluator's run, with its contract. No condition.
-/
import Derived.Test.YtkcdhdnmmpapdaaFwV
import Derived.Test.YtkcdhdnmmpapdaaChecked
import Derived.Test.YtkcdhdnmmpapdaaMark1
import Derived.Test.YtkcdhdnmmpapdaaMark4
import Derived.Test.YtkcdhdnmmpapdaaClo
import Derived.Test.YtkcdhdnmmpapdaaPerm4
namespace Go.Proofs.Ytkcdhdnmmpapdaa
open Go Go.Proofs.Ytkcdhdnmmpapdaa.Fw
set_option maxRecDepth 100000
set_option linter.unusedVariables false

theorem mixed : Try.prog.follows .mixedOrders = true := Try.checked.mixed
def tt : Nat → TD
  | 2 => tdInt .i64
  | 3 => tdInt .i64
  | 4 => tdBool
  | 22 => tdSl (.int .i64) 8
  | 39 => tdSl (.pair (.int .i64) (.pair (.int .i64) (.pair (.int .i64) (.int .i64)))) 32
  | 42 => tdSl (.pair (.int .i64) (.pair (.int .i64) (.pair (.int .i64) (.int .i64)))) 32
  | 70 => tdSt 4 [(0, 1, false), (1, 1, false), (2, 1, false), (3, 1, false)] [.g (.int .i64) (0 : Int), .g (.int .i64) (0 : Int), .g (.int .i64) (0 : Int), .g (.int .i64) (0 : Int)]
  | 72 => tdSt 4 [(0, 1, false), (1, 1, false), (2, 1, false), (3, 1, false)] [.g (.int .i64) (0 : Int), .g (.int .i64) (0 : Int), .g (.int .i64) (0 : Int), .g (.int .i64) (0 : Int)]
  | 107 => tdSl .bool 1
  | _ => tdNone
theorem tt_2 : TDok Try.prog 2 (tdInt .i64) := tdok_int (b := 8) (by kernel_rfl) (by kernel_rfl)
theorem tt_3 : TDok Try.prog 3 (tdInt .i64) := tdok_int (b := 8) (by kernel_rfl) (by kernel_rfl)
theorem tt_4 : TDok Try.prog 4 (tdBool) := tdok_bool (b := 1) (by kernel_rfl) (by kernel_rfl)
theorem tt_22 : TDok Try.prog 22 (tdSl (.int .i64) 8) := tdok_sl (b := 24) (e := 2) (z := (.int .i64 0)) (by kernel_rfl) (by kernel_rfl) (by kernel_rfl) (by decide) (fun _ => by kernel_rfl)
theorem tt_39 : TDok Try.prog 39 (tdSl (.pair (.int .i64) (.pair (.int .i64) (.pair (.int .i64) (.int .i64)))) 32) := tdok_sl (b := 24) (e := 72) (z := (.agg #[(.int .i64 0), (.int .i64 0), (.int .i64 0), (.int .i64 0)])) (by kernel_rfl) (by kernel_rfl) (by kernel_rfl) (by decide) (fun _ => by kernel_rfl)
theorem tt_42 : TDok Try.prog 42 (tdSl (.pair (.int .i64) (.pair (.int .i64) (.pair (.int .i64) (.int .i64)))) 32) := tdok_sl (b := 24) (e := 70) (z := (.agg #[(.int .i64 0), (.int .i64 0), (.int .i64 0), (.int .i64 0)])) (by kernel_rfl) (by kernel_rfl) (by kernel_rfl) (by decide) (fun _ => by kernel_rfl)
theorem tt_70 : TDok Try.prog 70 (tdSt 4 [(0, 1, false), (1, 1, false), (2, 1, false), (3, 1, false)] [.g (.int .i64) (0 : Int), .g (.int .i64) (0 : Int), .g (.int .i64) (0 : Int), .g (.int .i64) (0 : Int)]) := tdok_st (b := 32) (z := (.agg #[(.int .i64 0), (.int .i64 0), (.int .i64 0), (.int .i64 0)])) (by kernel_rfl) (by kernel_rfl) (by kernel_rfl) (by kernel_rfl) (by kernel_rfl)
theorem tt_72 : TDok Try.prog 72 (tdSt 4 [(0, 1, false), (1, 1, false), (2, 1, false), (3, 1, false)] [.g (.int .i64) (0 : Int), .g (.int .i64) (0 : Int), .g (.int .i64) (0 : Int), .g (.int .i64) (0 : Int)]) := tdok_st (b := 32) (z := (.agg #[(.int .i64 0), (.int .i64 0), (.int .i64 0), (.int .i64 0)])) (by kernel_rfl) (by kernel_rfl) (by kernel_rfl) (by kernel_rfl) (by kernel_rfl)
theorem tt_107 : TDok Try.prog 107 (tdSl .bool 1) := tdok_sl (b := 24) (e := 4) (z := (.bool false)) (by kernel_rfl) (by kernel_rfl) (by kernel_rfl) (by decide) (fun _ => by kernel_rfl)
theorem tt_ok (t : Nat) : TDok Try.prog t (tt t) := by
  unfold tt
  split
  · exact tt_2
  · exact tt_3
  · exact tt_4
  · exact tt_22
  · exact tt_39
  · exact tt_42
  · exact tt_70
  · exact tt_72
  · exact tt_107
  · exact tdok_none

/- laws.eqInt64S -/
def laws_eqInt64S (N : Nat) (x0 : List Int) (x1 : List Int) : Option (Bool × Unit) :=
  cond ((List.length x0 : Int) != (List.length x1 : Int))
    (some (false, ()))
    (loopN (fun (s1 : Int × Unit) next2 =>
      cond (decide (s1.1 < (List.length x0 : Int)))
        (Option.bind (idx x0 s1.1) fun v3 =>
        Option.bind (idx x1 s1.1) fun v4 =>
        cond (v3 != v4)
          (some (false, ()))
          (next2 ((w64 (s1.1 + 1)), ())))
        (some (true, ()))) N (0, ()))
def laws_eqInt64S_e (N : Nat) : Ent := { ins := [(.sl (.int .i64)), (.sl (.int .i64))], outs := [.val .bool], F := fun x => laws_eqInt64S N x.1 x.2.1 }
def laws_eqInt64S_T (_ : Nat) : Nat → List EntX := fun _ => []
def laws_eqInt64S_L : Nat → List (Nat × TK)
  | 4 => [(5, .v (.int .i64))]
  | _ => []
theorem laws_eqInt64S_eq (N : Nat) : runF N tt (laws_eqInt64S_T N) laws_eqInt64S_L [(.sl (.int .i64)), (.sl (.int .i64))] [.val .bool] (bodyOf Try.f16) Try.f16.ntmps [4] = (laws_eqInt64S_e N).F := by
  funext x
  kernel_rfl
theorem laws_eqInt64S_sound (N : Nat) : SoundC Try.prog 16 (laws_eqInt64S_e N) := by
  have h := runF_sound (f := 16) (code := bodyOf Try.f16) (N := N) (T := (laws_eqInt64S_T N)) (L := laws_eqInt64S_L) (ins := [(.sl (.int .i64)), (.sl (.int .i64))]) (outs := [.val .bool]) (res := [4]) mixed tt_ok ?_ Try.func16 (by kernel_rfl) rfl (by kernel_rfl) (by kernel_rfl) (by decide +kernel)
  · rw [laws_eqInt64S_eq] at h
    exact h
  · intro f e he
    cases he

/- laws.markInt64S -/
def laws_markInt64S (N : Nat) (x0 : List Int) (x1 : Int) : Option (List (Int) × (Int × Unit)) :=
  loopN (fun (s1 : List (Int) × Int × Int × Unit) next2 =>
    cond (decide (s1.2.2.1 < (List.length s1.1 : Int)))
      (cond (inB s1.2.2.1 (List.length s1.1))
        (let xs3 := (List.set s1.1 (Int.toNat s1.2.2.1) s1.2.1)
        next2 (xs3, (w64 (s1.2.1 + 1)), (w64 (s1.2.2.1 + 1)), ())) none)
      (some (s1.1, (s1.2.1, ())))) N (x0, x1, 0, ())
def laws_markInt64S_e (N : Nat) : EntM := { io := (.int .i64), ins := [(.int .i64)], outs := [.val (.int .i64)], F := fun xs x => laws_markInt64S N xs x.1 }
def laws_markInt64S_T (_ : Nat) : Nat → List EntX := fun _ => []
def laws_markInt64S_L : Nat → List (Nat × TK)
  | 2 => [(0, .own (.int .i64)), (1, .v (.int .i64)), (5, .v (.int .i64))]
  | _ => []
theorem laws_markInt64S_eq (N : Nat) : runM N tt (laws_markInt64S_T N) laws_markInt64S_L (.int .i64) [(.int .i64)] [.val (.int .i64)] (bodyOf Try.f17) Try.f17.ntmps [4] = (laws_markInt64S_e N).F := by
  funext xs x
  kernel_rfl
theorem laws_markInt64S_sound (N : Nat) : SoundM Try.prog 17 (laws_markInt64S_e N) := by
  have h := runM_sound (f := 17) (code := bodyOf Try.f17) (N := N) (T := (laws_markInt64S_T N)) (L := laws_markInt64S_L) (io := (.int .i64)) (ins := [(.int .i64)]) (outs := [.val (.int .i64)]) (res := [4]) mixed tt_ok ?_ Try.func17 (by kernel_rfl) rfl (by kernel_rfl) (by kernel_rfl) (by decide +kernel)
  · rw [laws_markInt64S_eq] at h
    exact h
  · intro f e he
    cases he

/- laws.heldInt64S -/
def laws_heldInt64S (N : Nat) (x0 : List Int) (x1 : Int) : Option (Int × Unit) :=
  loopN (fun (s1 : Int × Int × Unit) next2 =>
    cond (decide (s1.2.1 < (List.length x0 : Int)))
      (Option.bind (idx x0 s1.2.1) fun v3 =>
      cond (v3 != s1.1)
        (some ((-1), ()))
        (next2 ((w64 (s1.1 + 1)), (w64 (s1.2.1 + 1)), ())))
      (some (s1.1, ()))) N (x1, 0, ())
def laws_heldInt64S_e (N : Nat) : Ent := { ins := [(.sl (.int .i64)), (.int .i64)], outs := [.val (.int .i64)], F := fun x => laws_heldInt64S N x.1 x.2.1 }
def laws_heldInt64S_T (_ : Nat) : Nat → List EntX := fun _ => []
def laws_heldInt64S_L : Nat → List (Nat × TK)
  | 2 => [(1, .v (.int .i64)), (5, .v (.int .i64))]
  | _ => []
theorem laws_heldInt64S_eq (N : Nat) : runF N tt (laws_heldInt64S_T N) laws_heldInt64S_L [(.sl (.int .i64)), (.int .i64)] [.val (.int .i64)] (bodyOf Try.f18) Try.f18.ntmps [4] = (laws_heldInt64S_e N).F := by
  funext x
  kernel_rfl
theorem laws_heldInt64S_sound (N : Nat) : SoundC Try.prog 18 (laws_heldInt64S_e N) := by
  have h := runF_sound (f := 18) (code := bodyOf Try.f18) (N := N) (T := (laws_heldInt64S_T N)) (L := laws_heldInt64S_L) (ins := [(.sl (.int .i64)), (.int .i64)]) (outs := [.val (.int .i64)]) (res := [4]) mixed tt_ok ?_ Try.func18 (by kernel_rfl) rfl (by kernel_rfl) (by kernel_rfl) (by decide +kernel)
  · rw [laws_heldInt64S_eq] at h
    exact h
  · intro f e he
    cases he

/- laws.szJobS -/
def laws_szJobS (_N : Nat) (x0 : List (Int × Int × Int × Int)) (x1 : Int) : Option (Int × Unit) :=
  cond (decide ((w64 (x1 - (List.length x0 : Int))) < 0))
    (some ((-1), ()))
    (some ((w64 (x1 - (List.length x0 : Int))), ()))
def laws_szJobS_e (N : Nat) : Ent := { ins := [(.sl (.pair (.int .i64) (.pair (.int .i64) (.pair (.int .i64) (.int .i64))))), (.int .i64)], outs := [.val (.int .i64)], F := fun x => laws_szJobS N x.1 x.2.1 }
def laws_szJobS_T (_ : Nat) : Nat → List EntX := fun _ => []
def laws_szJobS_L : Nat → List (Nat × TK) := fun _ => []
theorem laws_szJobS_eq (N : Nat) : runF N tt (laws_szJobS_T N) laws_szJobS_L [(.sl (.pair (.int .i64) (.pair (.int .i64) (.pair (.int .i64) (.int .i64))))), (.int .i64)] [.val (.int .i64)] (bodyOf Try.f32) Try.f32.ntmps [4] = (laws_szJobS_e N).F := by
  funext x
  kernel_rfl
theorem laws_szJobS_sound (N : Nat) : SoundC Try.prog 32 (laws_szJobS_e N) := by
  have h := runF_sound (f := 32) (code := bodyOf Try.f32) (N := N) (T := (laws_szJobS_T N)) (L := laws_szJobS_L) (ins := [(.sl (.pair (.int .i64) (.pair (.int .i64) (.pair (.int .i64) (.int .i64))))), (.int .i64)]) (outs := [.val (.int .i64)]) (res := [4]) mixed tt_ok ?_ Try.func32 (by kernel_rfl) rfl (by kernel_rfl) (by kernel_rfl) (by decide +kernel)
  · rw [laws_szJobS_eq] at h
    exact h
  · intro f e he
    cases he

/- laws.toJob -/
def laws_toJob (_N : Nat) (x0 : Int × Int × Int × Int) : Option ((Int × Int × Int × Int) × Unit) :=
  some ((x0.1, (x0.2.1, (x0.2.2.1, x0.2.2.2))), ())
def laws_toJob_e (N : Nat) : Ent := { ins := [(.pair (.int .i64) (.pair (.int .i64) (.pair (.int .i64) (.int .i64))))], outs := [.val (.pair (.int .i64) (.pair (.int .i64) (.pair (.int .i64) (.int .i64))))], F := fun x => laws_toJob N x.1 }
def laws_toJob_T (_ : Nat) : Nat → List EntX := fun _ => []
def laws_toJob_L : Nat → List (Nat × TK) := fun _ => []
theorem laws_toJob_eq (N : Nat) : runC N tt (laws_toJob_T N) laws_toJob_L [(.pair (.int .i64) (.pair (.int .i64) (.pair (.int .i64) (.int .i64))))] [.val (.pair (.int .i64) (.pair (.int .i64) (.pair (.int .i64) (.int .i64))))] (bodyOf Try.f63) Try.f63.ntmps [2] [(2, 70)] = (laws_toJob_e N).F := by
  funext x
  kernel_rfl
theorem laws_toJob_sound (N : Nat) : SoundC Try.prog 63 (laws_toJob_e N) := by
  have h := runC_sound (f := 63) (code := bodyOf Try.f63) (N := N) (T := (laws_toJob_T N)) (L := laws_toJob_L) (ins := [(.pair (.int .i64) (.pair (.int .i64) (.pair (.int .i64) (.int .i64))))]) (outs := [.val (.pair (.int .i64) (.pair (.int .i64) (.pair (.int .i64) (.int .i64))))]) (res := [2]) (rs := [.cell 2 70]) (cells := [(2, 70)]) mixed tt_ok ?_ Try.func63 (by kernel_rfl) rfl (by kernel_rfl) (by kernel_rfl) rfl rfl (by decide) (by decide +kernel) (by decide +kernel)
  · rw [laws_toJob_eq] at h
    exact h
  · intro f e he
    cases he

/- laws.toJobS -/
def laws_toJobS (N : Nat) (x0 : List (Int × Int × Int × Int)) : Option (List (Int × Int × Int × Int) × Unit) :=
  cond (mkOk (List.length x0 : Int) (List.length x0 : Int))
    (let xs1 := (List.replicate (Int.toNat (List.length x0 : Int)) ((0 : Int), ((0 : Int), ((0 : Int), (0 : Int)))) : List (Int × Int × Int × Int))
    loopN (fun (s2 : List (Int × Int × Int × Int) × Int × Unit) next3 =>
      cond (decide (s2.2.1 < (List.length x0 : Int)))
        (Option.bind (idx x0 s2.2.1) fun v4 =>
        Option.bind (laws_toJob N v4) fun r5 =>
        cond (inB s2.2.1 (List.length s2.1))
          (let xs6 := (List.set s2.1 (Int.toNat s2.2.1) r5.1)
          next3 (xs6, (w64 (s2.2.1 + 1)), ())) none)
        (some (s2.1, ()))) N (xs1, 0, ())) none
def laws_toJobS_e (N : Nat) : Ent := { ins := [(.sl (.pair (.int .i64) (.pair (.int .i64) (.pair (.int .i64) (.int .i64)))))], outs := [.own (.pair (.int .i64) (.pair (.int .i64) (.pair (.int .i64) (.int .i64))))], F := fun x => laws_toJobS N x.1 }
def laws_toJobS_T (N : Nat) : Nat → List EntX
  | 63 => [.pl (laws_toJob_e N)]
  | _ => []
def laws_toJobS_L : Nat → List (Nat × TK)
  | 3 => [(3, .own (.pair (.int .i64) (.pair (.int .i64) (.pair (.int .i64) (.int .i64))))), (4, .v (.int .i64))]
  | _ => []
theorem laws_toJobS_eq (N : Nat) : runF N tt (laws_toJobS_T N) laws_toJobS_L [(.sl (.pair (.int .i64) (.pair (.int .i64) (.pair (.int .i64) (.int .i64)))))] [.own (.pair (.int .i64) (.pair (.int .i64) (.pair (.int .i64) (.int .i64))))] (bodyOf Try.f34) Try.f34.ntmps [2] = (laws_toJobS_e N).F := by
  funext x
  kernel_rfl
theorem laws_toJobS_sound (N : Nat) : SoundC Try.prog 34 (laws_toJobS_e N) := by
  have h := runF_sound (f := 34) (code := bodyOf Try.f34) (N := N) (T := (laws_toJobS_T N)) (L := laws_toJobS_L) (ins := [(.sl (.pair (.int .i64) (.pair (.int .i64) (.pair (.int .i64) (.int .i64)))))]) (outs := [.own (.pair (.int .i64) (.pair (.int .i64) (.pair (.int .i64) (.int .i64))))]) (res := [2]) mixed tt_ok ?_ Try.func34 (by kernel_rfl) rfl (by kernel_rfl) (by kernel_rfl) (by decide +kernel)
  · rw [laws_toJobS_eq] at h
    exact h
  · intro f e he
    unfold laws_toJobS_T at he
    split at he
    · rw [List.mem_singleton.1 he]; exact laws_toJob_sound N
    · cases he

/- laws.eqJob -/
def laws_eqJob (_N : Nat) (x0 : Int × Int × Int × Int) (x1 : Int × Int × Int × Int) : Option (Bool × Unit) :=
  cond (x0.1 != x1.1)
    (some (false, ()))
    (cond (x0.2.1 != x1.2.1)
      (some (false, ()))
      (cond (x0.2.2.1 != x1.2.2.1)
        (some (false, ()))
        (cond (x0.2.2.2 != x1.2.2.2)
          (some (false, ()))
          (some (true, ())))))
def laws_eqJob_e (N : Nat) : Ent := { ins := [(.pair (.int .i64) (.pair (.int .i64) (.pair (.int .i64) (.int .i64)))), (.pair (.int .i64) (.pair (.int .i64) (.pair (.int .i64) (.int .i64))))], outs := [.val .bool], F := fun x => laws_eqJob N x.1 x.2.1 }
def laws_eqJob_T (_ : Nat) : Nat → List EntX := fun _ => []
def laws_eqJob_L : Nat → List (Nat × TK) := fun _ => []
theorem laws_eqJob_eq (N : Nat) : runF N tt (laws_eqJob_T N) laws_eqJob_L [(.pair (.int .i64) (.pair (.int .i64) (.pair (.int .i64) (.int .i64)))), (.pair (.int .i64) (.pair (.int .i64) (.pair (.int .i64) (.int .i64))))] [.val .bool] (bodyOf Try.f67) Try.f67.ntmps [4] = (laws_eqJob_e N).F := by
  funext x
  kernel_rfl
theorem laws_eqJob_sound (N : Nat) : SoundC Try.prog 67 (laws_eqJob_e N) := by
  have h := runF_sound (f := 67) (code := bodyOf Try.f67) (N := N) (T := (laws_eqJob_T N)) (L := laws_eqJob_L) (ins := [(.pair (.int .i64) (.pair (.int .i64) (.pair (.int .i64) (.int .i64)))), (.pair (.int .i64) (.pair (.int .i64) (.pair (.int .i64) (.int .i64))))]) (outs := [.val .bool]) (res := [4]) mixed tt_ok ?_ Try.func67 (by kernel_rfl) rfl (by kernel_rfl) (by kernel_rfl) (by decide +kernel)
  · rw [laws_eqJob_eq] at h
    exact h
  · intro f e he
    cases he

/- laws.eqJobS -/
def laws_eqJobS (N : Nat) (x0 : List (Int × Int × Int × Int)) (x1 : List (Int × Int × Int × Int)) : Option (Bool × Unit) :=
  cond ((List.length x0 : Int) != (List.length x1 : Int))
    (some (false, ()))
    (loopN (fun (s1 : Int × Unit) next2 =>
      cond (decide (s1.1 < (List.length x0 : Int)))
        (Option.bind (idx x0 s1.1) fun v3 =>
        Option.bind (idx x1 s1.1) fun v4 =>
        Option.bind (laws_eqJob N v3 v4) fun r5 =>
        cond (!r5.1)
          (some (false, ()))
          (next2 ((w64 (s1.1 + 1)), ())))
        (some (true, ()))) N (0, ()))
def laws_eqJobS_e (N : Nat) : Ent := { ins := [(.sl (.pair (.int .i64) (.pair (.int .i64) (.pair (.int .i64) (.int .i64))))), (.sl (.pair (.int .i64) (.pair (.int .i64) (.pair (.int .i64) (.int .i64)))))], outs := [.val .bool], F := fun x => laws_eqJobS N x.1 x.2.1 }
def laws_eqJobS_T (N : Nat) : Nat → List EntX
  | 67 => [.pl (laws_eqJob_e N)]
  | _ => []
def laws_eqJobS_L : Nat → List (Nat × TK)
  | 4 => [(5, .v (.int .i64))]
  | _ => []
theorem laws_eqJobS_eq (N : Nat) : runF N tt (laws_eqJobS_T N) laws_eqJobS_L [(.sl (.pair (.int .i64) (.pair (.int .i64) (.pair (.int .i64) (.int .i64))))), (.sl (.pair (.int .i64) (.pair (.int .i64) (.pair (.int .i64) (.int .i64)))))] [.val .bool] (bodyOf Try.f36) Try.f36.ntmps [4] = (laws_eqJobS_e N).F := by
  funext x
  kernel_rfl
theorem laws_eqJobS_sound (N : Nat) : SoundC Try.prog 36 (laws_eqJobS_e N) := by
  have h := runF_sound (f := 36) (code := bodyOf Try.f36) (N := N) (T := (laws_eqJobS_T N)) (L := laws_eqJobS_L) (ins := [(.sl (.pair (.int .i64) (.pair (.int .i64) (.pair (.int .i64) (.int .i64))))), (.sl (.pair (.int .i64) (.pair (.int .i64) (.pair (.int .i64) (.int .i64)))))]) (outs := [.val .bool]) (res := [4]) mixed tt_ok ?_ Try.func36 (by kernel_rfl) rfl (by kernel_rfl) (by kernel_rfl) (by decide +kernel)
  · rw [laws_eqJobS_eq] at h
    exact h
  · intro f e he
    unfold laws_eqJobS_T at he
    split at he
    · rw [List.mem_singleton.1 he]; exact laws_eqJob_sound N
    · cases he

/- spec.l00In -/
def spec_l00In (_N : Nat) (x0 : Int) (x1 : Int) (x2 : Int) : Option (Bool × Unit) :=
  cond (decide (x0 ≥ x1))
    (some ((decide (x0 ≤ x2)), ()))
    (some (false, ()))
def spec_l00In_e (N : Nat) : Ent := { ins := [(.int .i64), (.int .i64), (.int .i64)], outs := [.val .bool], F := fun x => spec_l00In N x.1 x.2.1 x.2.2.1 }
def spec_l00In_T (_ : Nat) : Nat → List EntX := fun _ => []
def spec_l00In_L : Nat → List (Nat × TK) := fun _ => []
theorem spec_l00In_eq (N : Nat) : runF N tt (spec_l00In_T N) spec_l00In_L [(.int .i64), (.int .i64), (.int .i64)] [.val .bool] (bodyOf Try.f55) Try.f55.ntmps [6] = (spec_l00In_e N).F := by
  funext x
  kernel_rfl
theorem spec_l00In_sound (N : Nat) : SoundC Try.prog 55 (spec_l00In_e N) := by
  have h := runF_sound (f := 55) (code := bodyOf Try.f55) (N := N) (T := (spec_l00In_T N)) (L := spec_l00In_L) (ins := [(.int .i64), (.int .i64), (.int .i64)]) (outs := [.val .bool]) (res := [6]) mixed tt_ok ?_ Try.func55 (by kernel_rfl) rfl (by kernel_rfl) (by kernel_rfl) (by decide +kernel)
  · rw [spec_l00In_eq] at h
    exact h
  · intro f e he
    cases he

/- spec.l02Job -/
def spec_l02Job (N : Nat) (x0 : Int × Int × Int × Int) : Option (Bool × Unit) :=
  Option.bind (spec_l00In N x0.1 1 10000) fun r1 =>
  cond r1.1
    (Option.bind (spec_l00In N x0.2.1 0 10000) fun r2 =>
    cond r2.1
      (Option.bind (spec_l00In N x0.2.2.1 0 10000) fun r3 =>
      cond r3.1
        (Option.bind (spec_l00In N x0.2.2.2 0 10000) fun r4 =>
        some (r4.1, ()))
        (some (false, ())))
      (some (false, ())))
    (some (false, ()))
def spec_l02Job_e (N : Nat) : Ent := { ins := [(.bx (.pair (.int .i64) (.pair (.int .i64) (.pair (.int .i64) (.int .i64)))))], outs := [.val .bool], F := fun x => spec_l02Job N x.1 }
def spec_l02Job_T (N : Nat) : Nat → List EntX
  | 55 => [.pl (spec_l00In_e N)]
  | _ => []
def spec_l02Job_L : Nat → List (Nat × TK) := fun _ => []
theorem spec_l02Job_eq (N : Nat) : runF N tt (spec_l02Job_T N) spec_l02Job_L [(.bx (.pair (.int .i64) (.pair (.int .i64) (.pair (.int .i64) (.int .i64)))))] [.val .bool] (bodyOf Try.f100) Try.f100.ntmps [2] = (spec_l02Job_e N).F := by
  funext x
  kernel_rfl
theorem spec_l02Job_sound (N : Nat) : SoundC Try.prog 100 (spec_l02Job_e N) := by
  have h := runF_sound (f := 100) (code := bodyOf Try.f100) (N := N) (T := (spec_l02Job_T N)) (L := spec_l02Job_L) (ins := [(.bx (.pair (.int .i64) (.pair (.int .i64) (.pair (.int .i64) (.int .i64)))))]) (outs := [.val .bool]) (res := [2]) mixed tt_ok ?_ Try.func100 (by kernel_rfl) rfl (by kernel_rfl) (by kernel_rfl) (by decide +kernel)
  · rw [spec_l02Job_eq] at h
    exact h
  · intro f e he
    unfold spec_l02Job_T at he
    split at he
    · rw [List.mem_singleton.1 he]; exact spec_l00In_sound N
    · cases he

/- spec.l02Jobs -/
def spec_l02Jobs (N : Nat) (x0 : List (Int × Int × Int × Int)) : Option (Bool × Unit) :=
  loopN (fun (s1 : Int × Unit) next2 =>
    cond (decide (s1.1 < (List.length x0 : Int)))
      (Option.bind (idx x0 s1.1) fun v3 =>
      Option.bind (spec_l02Job N v3) fun r4 =>
      cond (!r4.1)
        (some (false, ()))
        (next2 ((w64 (s1.1 + 1)), ())))
      (cond (decide ((List.length x0 : Int) ≥ 1))
        (some ((decide ((List.length x0 : Int) ≤ 24)), ()))
        (some (false, ())))) N (0, ())
def spec_l02Jobs_e (N : Nat) : Ent := { ins := [(.sl (.pair (.int .i64) (.pair (.int .i64) (.pair (.int .i64) (.int .i64)))))], outs := [.val .bool], F := fun x => spec_l02Jobs N x.1 }
def spec_l02Jobs_T (N : Nat) : Nat → List EntX
  | 100 => [.pl (spec_l02Job_e N)]
  | _ => []
def spec_l02Jobs_L : Nat → List (Nat × TK)
  | 2 => [(3, .v (.int .i64))]
  | _ => []
theorem spec_l02Jobs_eq (N : Nat) : runF N tt (spec_l02Jobs_T N) spec_l02Jobs_L [(.sl (.pair (.int .i64) (.pair (.int .i64) (.pair (.int .i64) (.int .i64)))))] [.val .bool] (bodyOf Try.f61) Try.f61.ntmps [2] = (spec_l02Jobs_e N).F := by
  funext x
  kernel_rfl
theorem spec_l02Jobs_sound (N : Nat) : SoundC Try.prog 61 (spec_l02Jobs_e N) := by
  have h := runF_sound (f := 61) (code := bodyOf Try.f61) (N := N) (T := (spec_l02Jobs_T N)) (L := spec_l02Jobs_L) (ins := [(.sl (.pair (.int .i64) (.pair (.int .i64) (.pair (.int .i64) (.int .i64)))))]) (outs := [.val .bool]) (res := [2]) mixed tt_ok ?_ Try.func61 (by kernel_rfl) rfl (by kernel_rfl) (by kernel_rfl) (by decide +kernel)
  · rw [spec_l02Jobs_eq] at h
    exact h
  · intro f e he
    unfold spec_l02Jobs_T at he
    split at he
    · rw [List.mem_singleton.1 he]; exact spec_l02Job_sound N
    · cases he

/- spec.l02Count -/
def spec_l02Count (N : Nat) (x0 : Int) : Option (List (Int) × Unit) :=
  loopN (fun (s1 : List (Int) × Int × Unit) next2 =>
    cond (decide (s1.2.1 < x0))
      (cond (appOk (List.length s1.1) (List.length ([s1.2.1] : List Int)))
        (let xs3 := (s1.1 ++ ([s1.2.1] : List Int))
        next2 (xs3, (w64 (s1.2.1 + 1)), ())) none)
      (some (s1.1, ()))) N (([] : List Int), 0, ())
def spec_l02Count_e (N : Nat) : Ent := { ins := [(.int .i64)], outs := [.own (.int .i64)], F := fun x => spec_l02Count N x.1 }
def spec_l02Count_T (_ : Nat) : Nat → List EntX := fun _ => []
def spec_l02Count_L : Nat → List (Nat × TK)
  | 3 => [(3, .own (.int .i64)), (4, .v (.int .i64))]
  | _ => []
theorem spec_l02Count_eq (N : Nat) : runF N tt (spec_l02Count_T N) spec_l02Count_L [(.int .i64)] [.own (.int .i64)] (bodyOf Try.f71) Try.f71.ntmps [2] = (spec_l02Count_e N).F := by
  funext x
  kernel_rfl
theorem spec_l02Count_sound (N : Nat) : SoundC Try.prog 71 (spec_l02Count_e N) := by
  have h := runF_sound (f := 71) (code := bodyOf Try.f71) (N := N) (T := (spec_l02Count_T N)) (L := spec_l02Count_L) (ins := [(.int .i64)]) (outs := [.own (.int .i64)]) (res := [2]) mixed tt_ok ?_ Try.func71 (by kernel_rfl) rfl (by kernel_rfl) (by kernel_rfl) (by decide +kernel)
  · rw [spec_l02Count_eq] at h
    exact h
  · intro f e he
    cases he

/- spec.l00Max -/
def spec_l00Max (_N : Nat) (x0 : Int) (x1 : Int) : Option (Int × Unit) :=
  cond (decide (x0 > x1))
    (some (x0, ()))
    (some (x1, ()))
def spec_l00Max_e (N : Nat) : Ent := { ins := [(.int .i64), (.int .i64)], outs := [.val (.int .i64)], F := fun x => spec_l00Max N x.1 x.2.1 }
def spec_l00Max_T (_ : Nat) : Nat → List EntX := fun _ => []
def spec_l00Max_L : Nat → List (Nat × TK) := fun _ => []
theorem spec_l00Max_eq (N : Nat) : runF N tt (spec_l00Max_T N) spec_l00Max_L [(.int .i64), (.int .i64)] [.val (.int .i64)] (bodyOf Try.f85) Try.f85.ntmps [4] = (spec_l00Max_e N).F := by
  funext x
  kernel_rfl
theorem spec_l00Max_sound (N : Nat) : SoundC Try.prog 85 (spec_l00Max_e N) := by
  have h := runF_sound (f := 85) (code := bodyOf Try.f85) (N := N) (T := (spec_l00Max_T N)) (L := spec_l00Max_L) (ins := [(.int .i64), (.int .i64)]) (outs := [.val (.int .i64)]) (res := [4]) mixed tt_ok ?_ Try.func85 (by kernel_rfl) rfl (by kernel_rfl) (by kernel_rfl) (by decide +kernel)
  · rw [spec_l00Max_eq] at h
    exact h
  · intro f e he
    cases he

/- spec.l02Ends -/
def spec_l02Ends (N : Nat) (x0 : List (Int × Int × Int × Int)) (x1 : List Int) : Option (List (Int) × Unit) :=
  cond (mkOk (List.length x0 : Int) (List.length x0 : Int))
    (let xs1 := (List.replicate (Int.toNat (List.length x0 : Int)) (0 : Int) : List (Int))
    loopN (fun (s2 : List (Int) × Int × Int × Unit) next3 =>
      cond (decide (s2.2.2.1 < (List.length x1 : Int)))
        (Option.bind (idx x1 s2.2.2.1) fun v4 =>
        Option.bind (idx x0 v4) fun v5 =>
        Option.bind (spec_l00Max N s2.2.1 v5.2.1) fun r6 =>
        Option.bind (idx x0 v4) fun v7 =>
        cond (inB v4 (List.length s2.1))
          (let xs8 := (List.set s2.1 (Int.toNat v4) (w64 (r6.1 + v7.1)))
          next3 (xs8, (w64 (r6.1 + v7.1)), (w64 (s2.2.2.1 + 1)), ())) none)
        (some (s2.1, ()))) N (xs1, 0, 0, ())) none
def spec_l02Ends_e (N : Nat) : Ent := { ins := [(.sl (.pair (.int .i64) (.pair (.int .i64) (.pair (.int .i64) (.int .i64))))), (.sl (.int .i64))], outs := [.own (.int .i64)], F := fun x => spec_l02Ends N x.1 x.2.1 }
def spec_l02Ends_T (N : Nat) : Nat → List EntX
  | 85 => [.pl (spec_l00Max_e N)]
  | _ => []
def spec_l02Ends_L : Nat → List (Nat × TK)
  | 4 => [(5, .own (.int .i64)), (6, .v (.int .i64)), (7, .v (.int .i64))]
  | _ => []
theorem spec_l02Ends_eq (N : Nat) : runF N tt (spec_l02Ends_T N) spec_l02Ends_L [(.sl (.pair (.int .i64) (.pair (.int .i64) (.pair (.int .i64) (.int .i64))))), (.sl (.int .i64))] [.own (.int .i64)] (bodyOf Try.f109) Try.f109.ntmps [4] = (spec_l02Ends_e N).F := by
  funext x
  kernel_rfl
theorem spec_l02Ends_sound (N : Nat) : SoundC Try.prog 109 (spec_l02Ends_e N) := by
  have h := runF_sound (f := 109) (code := bodyOf Try.f109) (N := N) (T := (spec_l02Ends_T N)) (L := spec_l02Ends_L) (ins := [(.sl (.pair (.int .i64) (.pair (.int .i64) (.pair (.int .i64) (.int .i64))))), (.sl (.int .i64))]) (outs := [.own (.int .i64)]) (res := [4]) mixed tt_ok ?_ Try.func109 (by kernel_rfl) rfl (by kernel_rfl) (by kernel_rfl) (by decide +kernel)
  · rw [spec_l02Ends_eq] at h
    exact h
  · intro f e he
    unfold spec_l02Ends_T at he
    split at he
    · rw [List.mem_singleton.1 he]; exact spec_l00Max_sound N
    · cases he

/- spec.l02Part -/
def spec_l02Part (N : Nat) (x0 : Int × Int × Int × Int) (x1 : Int) (x2 : Int) : Option (Int × Unit) :=
  cond (x2 == 0)
    (some (x1, ()))
    (cond (x2 == 1)
      (some ((w64 (x0.2.2.2 * x1)), ()))
      (cond (x2 == 2)
        (some ((w64 (x1 - x0.2.2.1)), ()))
        (cond (x2 == 3)
          (Option.bind (spec_l00Max N 0 (w64 (x1 - x0.2.2.1))) fun r1 =>
          some ((w64 (x0.2.2.2 * r1.1)), ()))
          (cond (decide (x1 > x0.2.2.1))
            (some (1, ()))
            (some (0, ()))))))
def spec_l02Part_e (N : Nat) : Ent := { ins := [(.bx (.pair (.int .i64) (.pair (.int .i64) (.pair (.int .i64) (.int .i64))))), (.int .i64), (.int .i64)], outs := [.val (.int .i64)], F := fun x => spec_l02Part N x.1 x.2.1 x.2.2.1 }
def spec_l02Part_T (N : Nat) : Nat → List EntX
  | 85 => [.pl (spec_l00Max_e N)]
  | _ => []
def spec_l02Part_L : Nat → List (Nat × TK) := fun _ => []
theorem spec_l02Part_eq (N : Nat) : runF N tt (spec_l02Part_T N) spec_l02Part_L [(.bx (.pair (.int .i64) (.pair (.int .i64) (.pair (.int .i64) (.int .i64))))), (.int .i64), (.int .i64)] [.val (.int .i64)] (bodyOf Try.f110) Try.f110.ntmps [6] = (spec_l02Part_e N).F := by
  funext x
  kernel_rfl
theorem spec_l02Part_sound (N : Nat) : SoundC Try.prog 110 (spec_l02Part_e N) := by
  have h := runF_sound (f := 110) (code := bodyOf Try.f110) (N := N) (T := (spec_l02Part_T N)) (L := spec_l02Part_L) (ins := [(.bx (.pair (.int .i64) (.pair (.int .i64) (.pair (.int .i64) (.int .i64))))), (.int .i64), (.int .i64)]) (outs := [.val (.int .i64)]) (res := [6]) mixed tt_ok ?_ Try.func110 (by kernel_rfl) rfl (by kernel_rfl) (by kernel_rfl) (by decide +kernel)
  · rw [spec_l02Part_eq] at h
    exact h
  · intro f e he
    unfold spec_l02Part_T at he
    split at he
    · rw [List.mem_singleton.1 he]; exact spec_l00Max_sound N
    · cases he

/- spec.l02Both -/
def spec_l02Both (N : Nat) (x0 : Int) (x1 : Int) (x2 : Int) : Option (Int × Unit) :=
  cond (x2 == 0)
    (Option.bind (spec_l00Max N x0 x1) fun r1 =>
    some (r1.1, ()))
    (cond (x2 == 2)
      (Option.bind (spec_l00Max N x0 x1) fun r2 =>
      some (r2.1, ()))
      (some ((w64 (x0 + x1)), ())))
def spec_l02Both_e (N : Nat) : Ent := { ins := [(.int .i64), (.int .i64), (.int .i64)], outs := [.val (.int .i64)], F := fun x => spec_l02Both N x.1 x.2.1 x.2.2.1 }
def spec_l02Both_T (N : Nat) : Nat → List EntX
  | 85 => [.pl (spec_l00Max_e N)]
  | _ => []
def spec_l02Both_L : Nat → List (Nat × TK) := fun _ => []
theorem spec_l02Both_eq (N : Nat) : runF N tt (spec_l02Both_T N) spec_l02Both_L [(.int .i64), (.int .i64), (.int .i64)] [.val (.int .i64)] (bodyOf Try.f111) Try.f111.ntmps [6] = (spec_l02Both_e N).F := by
  funext x
  kernel_rfl
theorem spec_l02Both_sound (N : Nat) : SoundC Try.prog 111 (spec_l02Both_e N) := by
  have h := runF_sound (f := 111) (code := bodyOf Try.f111) (N := N) (T := (spec_l02Both_T N)) (L := spec_l02Both_L) (ins := [(.int .i64), (.int .i64), (.int .i64)]) (outs := [.val (.int .i64)]) (res := [6]) mixed tt_ok ?_ Try.func111 (by kernel_rfl) rfl (by kernel_rfl) (by kernel_rfl) (by decide +kernel)
  · rw [spec_l02Both_eq] at h
    exact h
  · intro f e he
    unfold spec_l02Both_T at he
    split at he
    · rw [List.mem_singleton.1 he]; exact spec_l00Max_sound N
    · cases he

/- spec.l02Cost -/
def spec_l02Cost (N : Nat) (x0 : List (Int × Int × Int × Int)) (x1 : List Int) (x2 : Int) : Option (Int × Unit) :=
  Option.bind (spec_l02Ends N x0 x1) fun r1 =>
  Option.bind (idx x0 0) fun v2 =>
  cond (inB 0 (List.length r1.1))
    (Option.bind (r1.1[(Int.toNat 0)]?) fun v3 =>
    Option.bind (spec_l02Part N v2 v3 x2) fun r4 =>
    loopN (fun (s5 : Int × Int × Unit) next6 =>
      cond (decide (s5.2.1 < (List.length x0 : Int)))
        (Option.bind (idx x0 s5.2.1) fun v7 =>
        cond (inB s5.2.1 (List.length r1.1))
          (Option.bind (r1.1[(Int.toNat s5.2.1)]?) fun v8 =>
          Option.bind (spec_l02Part N v7 v8 x2) fun r9 =>
          Option.bind (spec_l02Both N s5.1 r9.1 x2) fun r10 =>
          next6 (r10.1, (w64 (s5.2.1 + 1)), ())) none)
        (some (s5.1, ()))) N (r4.1, 1, ())) none
def spec_l02Cost_e (N : Nat) : Ent := { ins := [(.sl (.pair (.int .i64) (.pair (.int .i64) (.pair (.int .i64) (.int .i64))))), (.sl (.int .i64)), (.int .i64)], outs := [.val (.int .i64)], F := fun x => spec_l02Cost N x.1 x.2.1 x.2.2.1 }
def spec_l02Cost_T (N : Nat) : Nat → List EntX
  | 109 => [.pl (spec_l02Ends_e N)]
  | 110 => [.pl (spec_l02Part_e N)]
  | 111 => [.pl (spec_l02Both_e N)]
  | _ => []
def spec_l02Cost_L : Nat → List (Nat × TK)
  | 4 => [(8, .v (.int .i64)), (9, .v (.int .i64))]
  | _ => []
theorem spec_l02Cost_eq (N : Nat) : runF N tt (spec_l02Cost_T N) spec_l02Cost_L [(.sl (.pair (.int .i64) (.pair (.int .i64) (.pair (.int .i64) (.int .i64))))), (.sl (.int .i64)), (.int .i64)] [.val (.int .i64)] (bodyOf Try.f72) Try.f72.ntmps [6] = (spec_l02Cost_e N).F := by
  funext x
  kernel_rfl
theorem spec_l02Cost_sound (N : Nat) : SoundC Try.prog 72 (spec_l02Cost_e N) := by
  have h := runF_sound (f := 72) (code := bodyOf Try.f72) (N := N) (T := (spec_l02Cost_T N)) (L := spec_l02Cost_L) (ins := [(.sl (.pair (.int .i64) (.pair (.int .i64) (.pair (.int .i64) (.int .i64))))), (.sl (.int .i64)), (.int .i64)]) (outs := [.val (.int .i64)]) (res := [6]) mixed tt_ok ?_ Try.func72 (by kernel_rfl) rfl (by kernel_rfl) (by kernel_rfl) (by decide +kernel)
  · rw [spec_l02Cost_eq] at h
    exact h
  · intro f e he
    unfold spec_l02Cost_T at he
    split at he
    · rw [List.mem_singleton.1 he]; exact spec_l02Ends_sound N
    · rw [List.mem_singleton.1 he]; exact spec_l02Part_sound N
    · rw [List.mem_singleton.1 he]; exact spec_l02Both_sound N
    · cases he

/- spec.l02NextOrder -/
def spec_l02NextOrder (N : Nat) (x0 : List Int) : Option (List (Int) × (Bool × Unit)) :=
  loopN (fun (s1 : Int × Unit) next2 =>
    cond (decide (s1.1 ≥ 0))
      (cond (inB s1.1 (List.length x0))
        (Option.bind (x0[(Int.toNat s1.1)]?) fun v3 =>
        cond (inB (w64 (s1.1 + 1)) (List.length x0))
          (Option.bind (x0[(Int.toNat (w64 (s1.1 + 1)))]?) fun v4 =>
          cond (decide (v3 > v4))
            (next2 ((w64 (s1.1 - 1)), ()))
            (cond (decide (s1.1 < 0))
              (some (x0, (false, ())))
              (loopN (fun (s5 : Int × Unit) next6 =>
                cond (inB s5.1 (List.length x0))
                  (Option.bind (x0[(Int.toNat s5.1)]?) fun v7 =>
                  cond (inB s1.1 (List.length x0))
                    (Option.bind (x0[(Int.toNat s1.1)]?) fun v8 =>
                    cond (decide (v7 < v8))
                      (next6 ((w64 (s5.1 - 1)), ()))
                      (cond (inB s1.1 (List.length x0))
                        (Option.bind (x0[(Int.toNat s1.1)]?) fun v9 =>
                        cond (inB s5.1 (List.length x0))
                          (Option.bind (x0[(Int.toNat s5.1)]?) fun v10 =>
                          cond (inB s1.1 (List.length x0))
                            (let xs11 := (List.set x0 (Int.toNat s1.1) v10)
                            cond (inB s5.1 (List.length xs11))
                              (let xs12 := (List.set xs11 (Int.toNat s5.1) v9)
                              loopN (fun (s13 : List (Int) × Int × Int × Unit) next14 =>
                                cond (decide (s13.2.2.1 < s13.2.1))
                                  (cond (inB s13.2.2.1 (List.length s13.1))
                                    (Option.bind (s13.1[(Int.toNat s13.2.2.1)]?) fun v15 =>
                                    cond (inB s13.2.1 (List.length s13.1))
                                      (Option.bind (s13.1[(Int.toNat s13.2.1)]?) fun v16 =>
                                      cond (inB s13.2.2.1 (List.length s13.1))
                                        (let xs17 := (List.set s13.1 (Int.toNat s13.2.2.1) v16)
                                        cond (inB s13.2.1 (List.length xs17))
                                          (let xs18 := (List.set xs17 (Int.toNat s13.2.1) v15)
                                          next14 (xs18, (w64 (s13.2.1 - 1)), (w64 (s13.2.2.1 + 1)), ())) none) none) none) none)
                                  (some (s13.1, (true, ())))) N (xs12, (w64 ((List.length xs12 : Int) - 1)), (w64 (s1.1 + 1)), ())) none) none) none) none)) none) none) N ((w64 ((List.length x0 : Int) - 1)), ())))) none) none)
      (cond (decide (s1.1 < 0))
        (some (x0, (false, ())))
        (loopN (fun (s19 : Int × Unit) next20 =>
          cond (inB s19.1 (List.length x0))
            (Option.bind (x0[(Int.toNat s19.1)]?) fun v21 =>
            cond (inB s1.1 (List.length x0))
              (Option.bind (x0[(Int.toNat s1.1)]?) fun v22 =>
              cond (decide (v21 < v22))
                (next20 ((w64 (s19.1 - 1)), ()))
                (cond (inB s1.1 (List.length x0))
                  (Option.bind (x0[(Int.toNat s1.1)]?) fun v23 =>
                  cond (inB s19.1 (List.length x0))
                    (Option.bind (x0[(Int.toNat s19.1)]?) fun v24 =>
                    cond (inB s1.1 (List.length x0))
                      (let xs25 := (List.set x0 (Int.toNat s1.1) v24)
                      cond (inB s19.1 (List.length xs25))
                        (let xs26 := (List.set xs25 (Int.toNat s19.1) v23)
                        loopN (fun (s27 : List (Int) × Int × Int × Unit) next28 =>
                          cond (decide (s27.2.2.1 < s27.2.1))
                            (cond (inB s27.2.2.1 (List.length s27.1))
                              (Option.bind (s27.1[(Int.toNat s27.2.2.1)]?) fun v29 =>
                              cond (inB s27.2.1 (List.length s27.1))
                                (Option.bind (s27.1[(Int.toNat s27.2.1)]?) fun v30 =>
                                cond (inB s27.2.2.1 (List.length s27.1))
                                  (let xs31 := (List.set s27.1 (Int.toNat s27.2.2.1) v30)
                                  cond (inB s27.2.1 (List.length xs31))
                                    (let xs32 := (List.set xs31 (Int.toNat s27.2.1) v29)
                                    next28 (xs32, (w64 (s27.2.1 - 1)), (w64 (s27.2.2.1 + 1)), ())) none) none) none) none)
                            (some (s27.1, (true, ())))) N (xs26, (w64 ((List.length xs26 : Int) - 1)), (w64 (s1.1 + 1)), ())) none) none) none) none)) none) none) N ((w64 ((List.length x0 : Int) - 1)), ())))) N ((w64 ((List.length x0 : Int) - 2)), ())
def spec_l02NextOrder_e (N : Nat) : EntM := { io := (.int .i64), ins := [], outs := [.val .bool], F := fun xs x => spec_l02NextOrder N xs }
def spec_l02NextOrder_T (_ : Nat) : Nat → List EntX := fun _ => []
def spec_l02NextOrder_L : Nat → List (Nat × TK)
  | 2 => [(3, .v (.int .i64))]
  | 7 => [(4, .v (.int .i64))]
  | 14 => [(0, .own (.int .i64)), (6, .v (.int .i64)), (7, .v (.int .i64))]
  | _ => []
theorem spec_l02NextOrder_eq (N : Nat) : runM N tt (spec_l02NextOrder_T N) spec_l02NextOrder_L (.int .i64) [] [.val .bool] (bodyOf Try.f73) Try.f73.ntmps [2] = (spec_l02NextOrder_e N).F := by
  funext xs x
  kernel_rfl
theorem spec_l02NextOrder_sound (N : Nat) : SoundM Try.prog 73 (spec_l02NextOrder_e N) := by
  have h := runM_sound (f := 73) (code := bodyOf Try.f73) (N := N) (T := (spec_l02NextOrder_T N)) (L := spec_l02NextOrder_L) (io := (.int .i64)) (ins := []) (outs := [.val .bool]) (res := [2]) mixed tt_ok ?_ Try.func73 (by kernel_rfl) rfl (by kernel_rfl) (by kernel_rfl) (by decide +kernel)
  · rw [spec_l02NextOrder_eq] at h
    exact h
  · intro f e he
    cases he

/- spec.BestReleased -/
def spec_BestReleased (N : Nat) (x0 : List (Int × Int × Int × Int)) (x1 : Int) : Option (List (Int) × Int × Bool × Unit) :=
  Option.bind (spec_l02Jobs N x0) fun r1 =>
  cond (!r1.1)
    (some ([], 0, false, ()))
    (cond (decide ((List.length x0 : Int) > 6))
      (some ([], 0, false, ()))
      (Option.bind (spec_l00In N x1 0 4) fun r2 =>
      cond (!r2.1)
        (some ([], 0, false, ()))
        (Option.bind (spec_l02Count N (List.length x0 : Int)) fun r3 =>
        cond (appOk (List.length ([] : List Int)) (List.length r3.1))
          (let xs4 := (([] : List Int) ++ r3.1)
          Option.bind (spec_l02Cost N x0 r3.1 x1) fun r5 =>
          loopN (fun (s6 : List (Int) × List (Int) × Int × Unit) next7 =>
            Option.bind (spec_l02NextOrder N s6.1) fun r8 =>
            cond (Nat.beq (List.length r8.1) (List.length s6.1))
              (cond r8.2.1
                (Option.bind (spec_l02Cost N x0 r8.1 x1) fun r9 =>
                cond (decide (r9.1 < s6.2.2.1))
                  (cond (appOk (List.length ([] : List Int)) (List.length r8.1))
                    (let xs10 := (([] : List Int) ++ r8.1)
                    next7 (r8.1, xs10, r9.1, ())) none)
                  (next7 (r8.1, s6.2.1, s6.2.2.1, ())))
                (some (s6.2.1, s6.2.2.1, true, ()))) none) N (r3.1, xs4, r5.1, ())) none)))
def spec_BestReleased_e (N : Nat) : Ent := { ins := [(.sl (.pair (.int .i64) (.pair (.int .i64) (.pair (.int .i64) (.int .i64))))), (.int .i64)], outs := [.own (.int .i64), .val (.int .i64), .val .bool], F := fun x => spec_BestReleased N x.1 x.2.1 }
def spec_BestReleased_T (N : Nat) : Nat → List EntX
  | 55 => [.pl (spec_l00In_e N)]
  | 61 => [.pl (spec_l02Jobs_e N)]
  | 71 => [.pl (spec_l02Count_e N)]
  | 72 => [.pl (spec_l02Cost_e N)]
  | 73 => [.mu (spec_l02NextOrder_e N)]
  | _ => []
def spec_BestReleased_L : Nat → List (Nat × TK)
  | 6 => [(7, .own (.int .i64)), (8, .own (.int .i64)), (9, .v (.int .i64))]
  | _ => []
theorem spec_BestReleased_eq (N : Nat) : runF N tt (spec_BestReleased_T N) spec_BestReleased_L [(.sl (.pair (.int .i64) (.pair (.int .i64) (.pair (.int .i64) (.int .i64))))), (.int .i64)] [.own (.int .i64), .val (.int .i64), .val .bool] (bodyOf Try.f40) Try.f40.ntmps [4, 5, 6] = (spec_BestReleased_e N).F := by
  funext x
  kernel_rfl
theorem spec_BestReleased_sound (N : Nat) : SoundC Try.prog 40 (spec_BestReleased_e N) := by
  have h := runF_sound (f := 40) (code := bodyOf Try.f40) (N := N) (T := (spec_BestReleased_T N)) (L := spec_BestReleased_L) (ins := [(.sl (.pair (.int .i64) (.pair (.int .i64) (.pair (.int .i64) (.int .i64))))), (.int .i64)]) (outs := [.own (.int .i64), .val (.int .i64), .val .bool]) (res := [4, 5, 6]) mixed tt_ok ?_ Try.func40 (by kernel_rfl) rfl (by kernel_rfl) (by kernel_rfl) (by decide +kernel)
  · rw [spec_BestReleased_eq] at h
    exact h
  · intro f e he
    unfold spec_BestReleased_T at he
    split at he
    · rw [List.mem_singleton.1 he]; exact spec_l00In_sound N
    · rw [List.mem_singleton.1 he]; exact spec_l02Jobs_sound N
    · rw [List.mem_singleton.1 he]; exact spec_l02Count_sound N
    · rw [List.mem_singleton.1 he]; exact spec_l02Cost_sound N
    · rw [List.mem_singleton.1 he]; exact spec_l02NextOrder_sound N
    · cases he

/- impl.within -/
def impl_within (_N : Nat) (x0 : Int) (x1 : Int) (x2 : Int) : Option (Bool × Unit) :=
  cond (decide (x0 ≥ x1))
    (some ((decide (x0 ≤ x2)), ()))
    (some (false, ()))
def impl_within_e (N : Nat) : Ent := { ins := [(.int .i64), (.int .i64), (.int .i64)], outs := [.val .bool], F := fun x => impl_within N x.1 x.2.1 x.2.2.1 }
def impl_within_T (_ : Nat) : Nat → List EntX := fun _ => []
def impl_within_L : Nat → List (Nat × TK) := fun _ => []
theorem impl_within_eq (N : Nat) : runF N tt (impl_within_T N) impl_within_L [(.int .i64), (.int .i64), (.int .i64)] [.val .bool] (bodyOf Try.f65) Try.f65.ntmps [6] = (impl_within_e N).F := by
  funext x
  kernel_rfl
theorem impl_within_sound (N : Nat) : SoundC Try.prog 65 (impl_within_e N) := by
  have h := runF_sound (f := 65) (code := bodyOf Try.f65) (N := N) (T := (impl_within_T N)) (L := impl_within_L) (ins := [(.int .i64), (.int .i64), (.int .i64)]) (outs := [.val .bool]) (res := [6]) mixed tt_ok ?_ Try.func65 (by kernel_rfl) rfl (by kernel_rfl) (by kernel_rfl) (by decide +kernel)
  · rw [impl_within_eq] at h
    exact h
  · intro f e he
    cases he

/- impl.areWithin -/
def impl_areWithin (N : Nat) (x0 : List Int) (x1 : Int) (x2 : Int) : Option (Bool × Unit) :=
  loopN (fun (s1 : Int × Unit) next2 =>
    cond (decide (s1.1 < (List.length x0 : Int)))
      (Option.bind (idx x0 s1.1) fun v3 =>
      Option.bind (impl_within N v3 x1 x2) fun r4 =>
      cond (!r4.1)
        (some (false, ()))
        (next2 ((w64 (s1.1 + 1)), ())))
      (some (true, ()))) N (0, ())
def impl_areWithin_e (N : Nat) : Ent := { ins := [(.sl (.int .i64)), (.int .i64), (.int .i64)], outs := [.val .bool], F := fun x => impl_areWithin N x.1 x.2.1 x.2.2.1 }
def impl_areWithin_T (N : Nat) : Nat → List EntX
  | 65 => [.pl (impl_within_e N)]
  | _ => []
def impl_areWithin_L : Nat → List (Nat × TK)
  | 2 => [(11, .v (.int .i64))]
  | _ => []
theorem impl_areWithin_eq (N : Nat) : runF N tt (impl_areWithin_T N) impl_areWithin_L [(.sl (.int .i64)), (.int .i64), (.int .i64)] [.val .bool] (bodyOf Try.f102) Try.f102.ntmps [6] = (impl_areWithin_e N).F := by
  funext x
  kernel_rfl
theorem impl_areWithin_sound (N : Nat) : SoundC Try.prog 102 (impl_areWithin_e N) := by
  have h := runF_sound (f := 102) (code := bodyOf Try.f102) (N := N) (T := (impl_areWithin_T N)) (L := impl_areWithin_L) (ins := [(.sl (.int .i64)), (.int .i64), (.int .i64)]) (outs := [.val .bool]) (res := [6]) mixed tt_ok ?_ Try.func102 (by kernel_rfl) rfl (by kernel_rfl) (by kernel_rfl) (by decide +kernel)
  · rw [impl_areWithin_eq] at h
    exact h
  · intro f e he
    unfold impl_areWithin_T at he
    split at he
    · rw [List.mem_singleton.1 he]; exact impl_within_sound N
    · cases he

/- impl.AreJobs -/
def impl_AreJobs (N : Nat) (x0 : List (Int × Int × Int × Int)) : Option (Bool × Unit) :=
  loopN (fun (s1 : Int × Unit) next2 =>
    cond (decide (s1.1 < (List.length x0 : Int)))
      (Option.bind (idx x0 s1.1) fun v3 =>
      Option.bind (impl_within N v3.1 1 10000) fun r4 =>
      cond (!r4.1)
        (some (false, ()))
        (Option.bind (impl_areWithin N ([v3.2.1, v3.2.2.1, v3.2.2.2] : List Int) 0 10000) fun r5 =>
        cond (!r5.1)
          (some (false, ()))
          (next2 ((w64 (s1.1 + 1)), ()))))
      (cond (decide ((List.length x0 : Int) ≥ 1))
        (some ((decide ((List.length x0 : Int) ≤ 24)), ()))
        (some (false, ())))) N (0, ())
def impl_AreJobs_e (N : Nat) : Ent := { ins := [(.sl (.pair (.int .i64) (.pair (.int .i64) (.pair (.int .i64) (.int .i64)))))], outs := [.val .bool], F := fun x => impl_AreJobs N x.1 }
def impl_AreJobs_T (N : Nat) : Nat → List EntX
  | 65 => [.pl (impl_within_e N)]
  | 102 => [.pl (impl_areWithin_e N)]
  | _ => []
def impl_AreJobs_L : Nat → List (Nat × TK)
  | 2 => [(7, .v (.int .i64))]
  | _ => []
theorem impl_AreJobs_eq (N : Nat) : runF N tt (impl_AreJobs_T N) impl_AreJobs_L [(.sl (.pair (.int .i64) (.pair (.int .i64) (.pair (.int .i64) (.int .i64)))))] [.val .bool] (bodyOf Try.f64) Try.f64.ntmps [2] = (impl_AreJobs_e N).F := by
  funext x
  kernel_rfl
theorem impl_AreJobs_sound (N : Nat) : SoundC Try.prog 64 (impl_AreJobs_e N) := by
  have h := runF_sound (f := 64) (code := bodyOf Try.f64) (N := N) (T := (impl_AreJobs_T N)) (L := impl_AreJobs_L) (ins := [(.sl (.pair (.int .i64) (.pair (.int .i64) (.pair (.int .i64) (.int .i64)))))]) (outs := [.val .bool]) (res := [2]) mixed tt_ok ?_ Try.func64 (by kernel_rfl) rfl (by kernel_rfl) (by kernel_rfl) (by decide +kernel)
  · rw [impl_AreJobs_eq] at h
    exact h
  · intro f e he
    unfold impl_AreJobs_T at he
    split at he
    · rw [List.mem_singleton.1 he]; exact impl_within_sound N
    · rw [List.mem_singleton.1 he]; exact impl_areWithin_sound N
    · cases he

/- impl.isAll -/
def impl_isAll (N : Nat) (x0 : List Int) : Option (Bool × Unit) :=
  cond (mkOk (List.length x0 : Int) (List.length x0 : Int))
    (let xs1 := (List.replicate (Int.toNat (List.length x0 : Int)) false : List (Bool))
    loopN (fun (s2 : List (Bool) × Int × Unit) next3 =>
      cond (decide (s2.2.1 < (List.length x0 : Int)))
        (Option.bind (idx x0 s2.2.1) fun v4 =>
        Option.bind (impl_within N v4 0 (w64 ((List.length x0 : Int) - 1))) fun r5 =>
        cond (!r5.1)
          (some (false, ()))
          (cond (inB v4 (List.length s2.1))
            (Option.bind (s2.1[(Int.toNat v4)]?) fun v6 =>
            cond v6
              (some (false, ()))
              (cond (inB v4 (List.length s2.1))
                (let xs7 := (List.set s2.1 (Int.toNat v4) true)
                next3 (xs7, (w64 (s2.2.1 + 1)), ())) none)) none))
        (some (true, ()))) N (xs1, 0, ())) none
def impl_isAll_e (N : Nat) : Ent := { ins := [(.sl (.int .i64))], outs := [.val .bool], F := fun x => impl_isAll N x.1 }
def impl_isAll_T (N : Nat) : Nat → List EntX
  | 65 => [.pl (impl_within_e N)]
  | _ => []
def impl_isAll_L : Nat → List (Nat × TK)
  | 3 => [(3, .own .bool), (11, .v (.int .i64))]
  | _ => []
theorem impl_isAll_eq (N : Nat) : runF N tt (impl_isAll_T N) impl_isAll_L [(.sl (.int .i64))] [.val .bool] (bodyOf Try.f132) Try.f132.ntmps [2] = (impl_isAll_e N).F := by
  funext x
  kernel_rfl
theorem impl_isAll_sound (N : Nat) : SoundC Try.prog 132 (impl_isAll_e N) := by
  have h := runF_sound (f := 132) (code := bodyOf Try.f132) (N := N) (T := (impl_isAll_T N)) (L := impl_isAll_L) (ins := [(.sl (.int .i64))]) (outs := [.val .bool]) (res := [2]) mixed tt_ok ?_ Try.func132 (by kernel_rfl) rfl (by kernel_rfl) (by kernel_rfl) (by decide +kernel)
  · rw [impl_isAll_eq] at h
    exact h
  · intro f e he
    unfold impl_isAll_T at he
    split at he
    · rw [List.mem_singleton.1 he]; exact impl_within_sound N
    · cases he

/- impl.IsOrder -/
def impl_IsOrder (N : Nat) (x0 : List Int) (x1 : Int) : Option (Bool × Unit) :=
  Option.bind (impl_within N x1 1 24) fun r1 =>
  cond (!r1.1)
    (some (false, ()))
    (cond ((List.length x0 : Int) != x1)
      (some (false, ()))
      (Option.bind (impl_isAll N x0) fun r2 =>
      some (r2.1, ())))
def impl_IsOrder_e (N : Nat) : Ent := { ins := [(.sl (.int .i64)), (.int .i64)], outs := [.val .bool], F := fun x => impl_IsOrder N x.1 x.2.1 }
def impl_IsOrder_T (N : Nat) : Nat → List EntX
  | 65 => [.pl (impl_within_e N)]
  | 132 => [.pl (impl_isAll_e N)]
  | _ => []
def impl_IsOrder_L : Nat → List (Nat × TK) := fun _ => []
theorem impl_IsOrder_eq (N : Nat) : runF N tt (impl_IsOrder_T N) impl_IsOrder_L [(.sl (.int .i64)), (.int .i64)] [.val .bool] (bodyOf Try.f126) Try.f126.ntmps [4] = (impl_IsOrder_e N).F := by
  funext x
  kernel_rfl
theorem impl_IsOrder_sound (N : Nat) : SoundC Try.prog 126 (impl_IsOrder_e N) := by
  have h := runF_sound (f := 126) (code := bodyOf Try.f126) (N := N) (T := (impl_IsOrder_T N)) (L := impl_IsOrder_L) (ins := [(.sl (.int .i64)), (.int .i64)]) (outs := [.val .bool]) (res := [4]) mixed tt_ok ?_ Try.func126 (by kernel_rfl) rfl (by kernel_rfl) (by kernel_rfl) (by decide +kernel)
  · rw [impl_IsOrder_eq] at h
    exact h
  · intro f e he
    unfold impl_IsOrder_T at he
    split at he
    · rw [List.mem_singleton.1 he]; exact impl_within_sound N
    · rw [List.mem_singleton.1 he]; exact impl_isAll_sound N
    · cases he

/- impl.orders -/
def impl_orders (N : Nat) (x0 : List (Int × Int × Int × Int)) (x1 : List Int) : Option (Bool × Unit) :=
  Option.bind (impl_AreJobs N x0) fun r1 =>
  cond r1.1
    (Option.bind (impl_IsOrder N x1 (List.length x0 : Int)) fun r2 =>
    some (r2.1, ()))
    (some (false, ()))
def impl_orders_e (N : Nat) : Ent := { ins := [(.sl (.pair (.int .i64) (.pair (.int .i64) (.pair (.int .i64) (.int .i64))))), (.sl (.int .i64))], outs := [.val .bool], F := fun x => impl_orders N x.1 x.2.1 }
def impl_orders_T (N : Nat) : Nat → List EntX
  | 64 => [.pl (impl_AreJobs_e N)]
  | 126 => [.pl (impl_IsOrder_e N)]
  | _ => []
def impl_orders_L : Nat → List (Nat × TK) := fun _ => []
theorem impl_orders_eq (N : Nat) : runF N tt (impl_orders_T N) impl_orders_L [(.sl (.pair (.int .i64) (.pair (.int .i64) (.pair (.int .i64) (.int .i64))))), (.sl (.int .i64))] [.val .bool] (bodyOf Try.f114) Try.f114.ntmps [4] = (impl_orders_e N).F := by
  funext x
  kernel_rfl
theorem impl_orders_sound (N : Nat) : SoundC Try.prog 114 (impl_orders_e N) := by
  have h := runF_sound (f := 114) (code := bodyOf Try.f114) (N := N) (T := (impl_orders_T N)) (L := impl_orders_L) (ins := [(.sl (.pair (.int .i64) (.pair (.int .i64) (.pair (.int .i64) (.int .i64))))), (.sl (.int .i64))]) (outs := [.val .bool]) (res := [4]) mixed tt_ok ?_ Try.func114 (by kernel_rfl) rfl (by kernel_rfl) (by kernel_rfl) (by decide +kernel)
  · rw [impl_orders_eq] at h
    exact h
  · intro f e he
    unfold impl_orders_T at he
    split at he
    · rw [List.mem_singleton.1 he]; exact impl_AreJobs_sound N
    · rw [List.mem_singleton.1 he]; exact impl_IsOrder_sound N
    · cases he

/- impl.endsOf -/
def impl_endsOf (N : Nat) (x0 : List (Int × Int × Int × Int)) (x1 : List Int) : Option (List (Int) × Unit) :=
  cond (mkOk (List.length x0 : Int) (List.length x0 : Int))
    (let xs1 := (List.replicate (Int.toNat (List.length x0 : Int)) (0 : Int) : List (Int))
    loopN (fun (s2 : List (Int) × Int × Int × Unit) next3 =>
      cond (decide (s2.2.2.1 < (List.length x1 : Int)))
        (Option.bind (idx x1 s2.2.2.1) fun v4 =>
        Option.bind (idx x0 v4) fun v5 =>
        Option.bind (idx x0 v4) fun v6 =>
        cond (inB v4 (List.length s2.1))
          (let xs7 := (List.set s2.1 (Int.toNat v4) (w64 ((imax s2.2.1 v5.2.1) + v6.1)))
          next3 (xs7, (w64 ((imax s2.2.1 v5.2.1) + v6.1)), (w64 (s2.2.2.1 + 1)), ())) none)
        (some (s2.1, ()))) N (xs1, 0, 0, ())) none
def impl_endsOf_e (N : Nat) : Ent := { ins := [(.sl (.pair (.int .i64) (.pair (.int .i64) (.pair (.int .i64) (.int .i64))))), (.sl (.int .i64))], outs := [.own (.int .i64)], F := fun x => impl_endsOf N x.1 x.2.1 }
def impl_endsOf_T (_ : Nat) : Nat → List EntX := fun _ => []
def impl_endsOf_L : Nat → List (Nat × TK)
  | 4 => [(5, .own (.int .i64)), (6, .v (.int .i64)), (14, .v (.int .i64))]
  | _ => []
theorem impl_endsOf_eq (N : Nat) : runF N tt (impl_endsOf_T N) impl_endsOf_L [(.sl (.pair (.int .i64) (.pair (.int .i64) (.pair (.int .i64) (.int .i64))))), (.sl (.int .i64))] [.own (.int .i64)] (bodyOf Try.f116) Try.f116.ntmps [4] = (impl_endsOf_e N).F := by
  funext x
  kernel_rfl
theorem impl_endsOf_sound (N : Nat) : SoundC Try.prog 116 (impl_endsOf_e N) := by
  have h := runF_sound (f := 116) (code := bodyOf Try.f116) (N := N) (T := (impl_endsOf_T N)) (L := impl_endsOf_L) (ins := [(.sl (.pair (.int .i64) (.pair (.int .i64) (.pair (.int .i64) (.int .i64))))), (.sl (.int .i64))]) (outs := [.own (.int .i64)]) (res := [4]) mixed tt_ok ?_ Try.func116 (by kernel_rfl) rfl (by kernel_rfl) (by kernel_rfl) (by decide +kernel)
  · rw [impl_endsOf_eq] at h
    exact h
  · intro f e he
    cases he

/- (impl.Job).share -/
def impl_Job_share (_N : Nat) (x0 : Int × Int × Int × Int) (x1 : Int) (x2 : Int) : Option (Int × Unit) :=
  cond (x1 == 0)
    (some (x2, ()))
    (cond (x1 == 1)
      (some ((w64 (x0.2.2.2 * x2)), ()))
      (cond (x1 == 2)
        (some ((w64 (x2 - x0.2.2.1)), ()))
        (cond (x1 == 3)
          (some ((w64 (x0.2.2.2 * (imax 0 (w64 (x2 - x0.2.2.1))))), ()))
          (cond (decide (x2 > x0.2.2.1))
            (some (1, ()))
            (some (0, ()))))))
def impl_Job_share_e (N : Nat) : Ent := { ins := [(.pair (.int .i64) (.pair (.int .i64) (.pair (.int .i64) (.int .i64)))), (.int .i64), (.int .i64)], outs := [.val (.int .i64)], F := fun x => impl_Job_share N x.1 x.2.1 x.2.2.1 }
def impl_Job_share_T (_ : Nat) : Nat → List EntX := fun _ => []
def impl_Job_share_L : Nat → List (Nat × TK) := fun _ => []
theorem impl_Job_share_eq (N : Nat) : runF N tt (impl_Job_share_T N) impl_Job_share_L [(.pair (.int .i64) (.pair (.int .i64) (.pair (.int .i64) (.int .i64)))), (.int .i64), (.int .i64)] [.val (.int .i64)] (bodyOf Try.f127) Try.f127.ntmps [6] = (impl_Job_share_e N).F := by
  funext x
  kernel_rfl
theorem impl_Job_share_sound (N : Nat) : SoundC Try.prog 127 (impl_Job_share_e N) := by
  have h := runF_sound (f := 127) (code := bodyOf Try.f127) (N := N) (T := (impl_Job_share_T N)) (L := impl_Job_share_L) (ins := [(.pair (.int .i64) (.pair (.int .i64) (.pair (.int .i64) (.int .i64)))), (.int .i64), (.int .i64)]) (outs := [.val (.int .i64)]) (res := [6]) mixed tt_ok ?_ Try.func127 (by kernel_rfl) rfl (by kernel_rfl) (by kernel_rfl) (by decide +kernel)
  · rw [impl_Job_share_eq] at h
    exact h
  · intro f e he
    cases he

/- impl.isGreatest -/
def impl_isGreatest (_N : Nat) (x0 : Int) : Option (Bool × Unit) :=
  cond (x0 == 0)
    (some (true, ()))
    (some ((x0 == 2), ()))
def impl_isGreatest_e (N : Nat) : Ent := { ins := [(.int .i64)], outs := [.val .bool], F := fun x => impl_isGreatest N x.1 }
def impl_isGreatest_T (_ : Nat) : Nat → List EntX := fun _ => []
def impl_isGreatest_L : Nat → List (Nat × TK) := fun _ => []
theorem impl_isGreatest_eq (N : Nat) : runF N tt (impl_isGreatest_T N) impl_isGreatest_L [(.int .i64)] [.val .bool] (bodyOf Try.f133) Try.f133.ntmps [2] = (impl_isGreatest_e N).F := by
  funext x
  kernel_rfl
theorem impl_isGreatest_sound (N : Nat) : SoundC Try.prog 133 (impl_isGreatest_e N) := by
  have h := runF_sound (f := 133) (code := bodyOf Try.f133) (N := N) (T := (impl_isGreatest_T N)) (L := impl_isGreatest_L) (ins := [(.int .i64)]) (outs := [.val .bool]) (res := [2]) mixed tt_ok ?_ Try.func133 (by kernel_rfl) rfl (by kernel_rfl) (by kernel_rfl) (by decide +kernel)
  · rw [impl_isGreatest_eq] at h
    exact h
  · intro f e he
    cases he

/- impl.both -/
def impl_both (N : Nat) (x0 : Int) (x1 : Int) (x2 : Int) : Option (Int × Unit) :=
  Option.bind (impl_isGreatest N x0) fun r1 =>
  cond r1.1
    (some ((imax x1 x2), ()))
    (some ((w64 (x1 + x2)), ()))
def impl_both_e (N : Nat) : Ent := { ins := [(.int .i64), (.int .i64), (.int .i64)], outs := [.val (.int .i64)], F := fun x => impl_both N x.1 x.2.1 x.2.2.1 }
def impl_both_T (N : Nat) : Nat → List EntX
  | 133 => [.pl (impl_isGreatest_e N)]
  | _ => []
def impl_both_L : Nat → List (Nat × TK) := fun _ => []
theorem impl_both_eq (N : Nat) : runF N tt (impl_both_T N) impl_both_L [(.int .i64), (.int .i64), (.int .i64)] [.val (.int .i64)] (bodyOf Try.f128) Try.f128.ntmps [6] = (impl_both_e N).F := by
  funext x
  kernel_rfl
theorem impl_both_sound (N : Nat) : SoundC Try.prog 128 (impl_both_e N) := by
  have h := runF_sound (f := 128) (code := bodyOf Try.f128) (N := N) (T := (impl_both_T N)) (L := impl_both_L) (ins := [(.int .i64), (.int .i64), (.int .i64)]) (outs := [.val (.int .i64)]) (res := [6]) mixed tt_ok ?_ Try.func128 (by kernel_rfl) rfl (by kernel_rfl) (by kernel_rfl) (by decide +kernel)
  · rw [impl_both_eq] at h
    exact h
  · intro f e he
    unfold impl_both_T at he
    split at he
    · rw [List.mem_singleton.1 he]; exact impl_isGreatest_sound N
    · cases he

/- impl.costOf -/
def impl_costOf (N : Nat) (x0 : List (Int × Int × Int × Int)) (x1 : List Int) (x2 : Int) : Option (Int × Unit) :=
  Option.bind (idx x0 0) fun v1 =>
  Option.bind (idx x1 0) fun v2 =>
  Option.bind (impl_Job_share N v1 x2 v2) fun r3 =>
  cond (decide (0 ≤ 1) && decide (1 ≤ (List.length x1 : Int)))
    (loopN (fun (s4 : Int × Int × Unit) next5 =>
      cond (decide (s4.2.1 < (List.length (List.drop (Int.toNat 1) x1) : Int)))
        (Option.bind (idx (List.drop (Int.toNat 1) x1) s4.2.1) fun v6 =>
        Option.bind (idx x0 (w64 (s4.2.1 + 1))) fun v7 =>
        Option.bind (impl_Job_share N v7 x2 v6) fun r8 =>
        Option.bind (impl_both N x2 s4.1 r8.1) fun r9 =>
        next5 (r9.1, (w64 (s4.2.1 + 1)), ()))
        (some (s4.1, ()))) N (r3.1, 0, ())) none
def impl_costOf_e (N : Nat) : Ent := { ins := [(.sl (.pair (.int .i64) (.pair (.int .i64) (.pair (.int .i64) (.int .i64))))), (.sl (.int .i64)), (.int .i64)], outs := [.val (.int .i64)], F := fun x => impl_costOf N x.1 x.2.1 x.2.2.1 }
def impl_costOf_T (N : Nat) : Nat → List EntX
  | 127 => [.pl (impl_Job_share_e N)]
  | 128 => [.pl (impl_both_e N)]
  | _ => []
def impl_costOf_L : Nat → List (Nat × TK)
  | 3 => [(7, .v (.int .i64)), (21, .v (.int .i64))]
  | _ => []
theorem impl_costOf_eq (N : Nat) : runF N tt (impl_costOf_T N) impl_costOf_L [(.sl (.pair (.int .i64) (.pair (.int .i64) (.pair (.int .i64) (.int .i64))))), (.sl (.int .i64)), (.int .i64)] [.val (.int .i64)] (bodyOf Try.f115) Try.f115.ntmps [6] = (impl_costOf_e N).F := by
  funext x
  kernel_rfl
theorem impl_costOf_sound (N : Nat) : SoundC Try.prog 115 (impl_costOf_e N) := by
  have h := runF_sound (f := 115) (code := bodyOf Try.f115) (N := N) (T := (impl_costOf_T N)) (L := impl_costOf_L) (ins := [(.sl (.pair (.int .i64) (.pair (.int .i64) (.pair (.int .i64) (.int .i64))))), (.sl (.int .i64)), (.int .i64)]) (outs := [.val (.int .i64)]) (res := [6]) mixed tt_ok ?_ Try.func115 (by kernel_rfl) rfl (by kernel_rfl) (by kernel_rfl) (by decide +kernel)
  · rw [impl_costOf_eq] at h
    exact h
  · intro f e he
    unfold impl_costOf_T at he
    split at he
    · rw [List.mem_singleton.1 he]; exact impl_Job_share_sound N
    · rw [List.mem_singleton.1 he]; exact impl_both_sound N
    · cases he

/- impl.CostOf -/
def impl_CostOf (N : Nat) (x0 : List (Int × Int × Int × Int)) (x1 : List Int) (x2 : Int) : Option (Int × Bool × Unit) :=
  Option.bind (impl_orders N x0 x1) fun r1 =>
  cond (!r1.1)
    (some (0, false, ()))
    (Option.bind (impl_within N x2 0 4) fun r2 =>
    cond (!r2.1)
      (some (0, false, ()))
      (Option.bind (impl_endsOf N x0 x1) fun r3 =>
      Option.bind (impl_costOf N x0 r3.1 x2) fun r4 =>
      some (r4.1, true, ())))
def impl_CostOf_e (N : Nat) : Ent := { ins := [(.sl (.pair (.int .i64) (.pair (.int .i64) (.pair (.int .i64) (.int .i64))))), (.sl (.int .i64)), (.int .i64)], outs := [.val (.int .i64), .val .bool], F := fun x => impl_CostOf N x.1 x.2.1 x.2.2.1 }
def impl_CostOf_T (N : Nat) : Nat → List EntX
  | 65 => [.pl (impl_within_e N)]
  | 114 => [.pl (impl_orders_e N)]
  | 115 => [.pl (impl_costOf_e N)]
  | 116 => [.pl (impl_endsOf_e N)]
  | _ => []
def impl_CostOf_L : Nat → List (Nat × TK) := fun _ => []
theorem impl_CostOf_eq (N : Nat) : runF N tt (impl_CostOf_T N) impl_CostOf_L [(.sl (.pair (.int .i64) (.pair (.int .i64) (.pair (.int .i64) (.int .i64))))), (.sl (.int .i64)), (.int .i64)] [.val (.int .i64), .val .bool] (bodyOf Try.f76) Try.f76.ntmps [6, 7] = (impl_CostOf_e N).F := by
  funext x
  kernel_rfl
theorem impl_CostOf_sound (N : Nat) : SoundC Try.prog 76 (impl_CostOf_e N) := by
  have h := runF_sound (f := 76) (code := bodyOf Try.f76) (N := N) (T := (impl_CostOf_T N)) (L := impl_CostOf_L) (ins := [(.sl (.pair (.int .i64) (.pair (.int .i64) (.pair (.int .i64) (.int .i64))))), (.sl (.int .i64)), (.int .i64)]) (outs := [.val (.int .i64), .val .bool]) (res := [6, 7]) mixed tt_ok ?_ Try.func76 (by kernel_rfl) rfl (by kernel_rfl) (by kernel_rfl) (by decide +kernel)
  · rw [impl_CostOf_eq] at h
    exact h
  · intro f e he
    unfold impl_CostOf_T at he
    split at he
    · rw [List.mem_singleton.1 he]; exact impl_within_sound N
    · rw [List.mem_singleton.1 he]; exact impl_orders_sound N
    · rw [List.mem_singleton.1 he]; exact impl_costOf_sound N
    · rw [List.mem_singleton.1 he]; exact impl_endsOf_sound N
    · cases he

/- impl.BestReleased$1 -/
def impl_BestReleased_1_c0 (N : Nat) (x0 : List Int) (x1 : List (Int × Int × Int × Int)) (x2 : Int) : Option (Int × Bool × Unit) :=
  Option.bind (impl_CostOf N x1 x0 x2) fun r1 =>
  some (r1.1, r1.2.1, ())
def impl_BestReleased_1_c0_e (N : Nat) : Ent := { ins := [(.sl (.int .i64)), (.bx (.sl (.pair (.int .i64) (.pair (.int .i64) (.pair (.int .i64) (.int .i64)))))), (.bx (.int .i64))], outs := [.val (.int .i64), .val .bool], F := fun x => impl_BestReleased_1_c0 N x.1 x.2.1 x.2.2.1 }
def impl_BestReleased_1_c0_T (N : Nat) : Nat → List EntX
  | 76 => [.pl (impl_CostOf_e N)]
  | _ => []
def impl_BestReleased_1_c0_L : Nat → List (Nat × TK) := fun _ => []
theorem impl_BestReleased_1_c0_eq (N : Nat) : runF N tt (impl_BestReleased_1_c0_T N) impl_BestReleased_1_c0_L [(.sl (.int .i64)), (.bx (.sl (.pair (.int .i64) (.pair (.int .i64) (.pair (.int .i64) (.int .i64)))))), (.bx (.int .i64))] [.val (.int .i64), .val .bool] (bodyOf Try.f75) Try.f75.ntmps [4, 5] = (impl_BestReleased_1_c0_e N).F := by
  funext x
  kernel_rfl
theorem impl_BestReleased_1_c0_sound (N : Nat) : SoundC Try.prog 75 (impl_BestReleased_1_c0_e N) := by
  have h := runF_sound (f := 75) (code := bodyOf Try.f75) (N := N) (T := (impl_BestReleased_1_c0_T N)) (L := impl_BestReleased_1_c0_L) (ins := [(.sl (.int .i64)), (.bx (.sl (.pair (.int .i64) (.pair (.int .i64) (.pair (.int .i64) (.int .i64)))))), (.bx (.int .i64))]) (outs := [.val (.int .i64), .val .bool]) (res := [4, 5]) mixed tt_ok ?_ Try.func75 (by kernel_rfl) rfl (by kernel_rfl) (by kernel_rfl) (by decide +kernel)
  · rw [impl_BestReleased_1_c0_eq] at h
    exact h
  · intro f e he
    unfold impl_BestReleased_1_c0_T at he
    split at he
    · rw [List.mem_singleton.1 he]; exact impl_CostOf_sound N
    · cases he

/- slices.Clone[[]int64,int64] -/
def slices_Clone_int64_int64_ne (_N : Nat) (x0 : List Int) : Option (List (Int) × Unit) :=
  cond (List.isEmpty x0) none
    (cond (appOk (List.length ([] : List Int)) (List.length x0))
      (let xs1 := (([] : List Int) ++ x0)
      some (xs1, ())) none)
def slices_Clone_int64_int64_ne_e (N : Nat) : Ent := { ins := [(.sl (.int .i64))], outs := [.own (.int .i64)], F := fun x => slices_Clone_int64_int64_ne N x.1 }
def slices_Clone_int64_int64_ne_T (_ : Nat) : Nat → List EntX := fun _ => []
def slices_Clone_int64_int64_ne_L : Nat → List (Nat × TK) := fun _ => []
theorem slices_Clone_int64_int64_ne_eq (N : Nat) : runF N tt (slices_Clone_int64_int64_ne_T N) slices_Clone_int64_int64_ne_L [(.sl (.int .i64))] [.own (.int .i64)] (bodyOf Try.f98) Try.f98.ntmps [2] = (slices_Clone_int64_int64_ne_e N).F := by
  funext x
  kernel_rfl
theorem slices_Clone_int64_int64_ne_sound (N : Nat) : SoundC Try.prog 98 (slices_Clone_int64_int64_ne_e N) := by
  have h := runF_sound (f := 98) (code := bodyOf Try.f98) (N := N) (T := (slices_Clone_int64_int64_ne_T N)) (L := slices_Clone_int64_int64_ne_L) (ins := [(.sl (.int .i64))]) (outs := [.own (.int .i64)]) (res := [2]) mixed tt_ok ?_ Try.func98 (by kernel_rfl) rfl (by kernel_rfl) (by kernel_rfl) (by decide +kernel)
  · rw [slices_Clone_int64_int64_ne_eq] at h
    exact h
  · intro f e he
    cases he

/- slices.Clone[[]int64,int64] -/
def slices_Clone_int64_int64 (_N : Nat) (x0 : List Int) : Option (List Int × Unit) := cond (appOk 0 (List.length x0)) (some (x0, ())) none
def slices_Clone_int64_int64_e (N : Nat) : Ent := { ins := [(.sl (.int .i64))], outs := [.own (.int .i64)], F := fun x => slices_Clone_int64_int64 N x.1 }
theorem slices_Clone_int64_int64_sound (N : Nat) : SoundC Try.prog 98 (slices_Clone_int64_int64_e N) := clone_sound (slices_Clone_int64_int64_ne_sound N) fun x h1 h2 => by
  show slices_Clone_int64_int64_ne N x.1 = _
  unfold slices_Clone_int64_int64_ne
  simp only [isEmpty_no h1, cond_false]
  exact congrArg (fun b => cond b _ _) h2

/- impl.firstLeast -/
def impl_firstLeast_impl_BestReleased_1 (N : Nat) (x0 : Int) (x1 : (List (Int × Int × Int × Int)) × Int) : Option (List (Int) × Int × Bool × Unit) :=
  leastF (fun o => impl_BestReleased_1_c0 N o x1.1 x1.2) x0
def impl_firstLeast_impl_BestReleased_1_e (N : Nat) : Ent := { ins := [(.int .i64), (.clo 75 (.pair (.bx (.sl (.pair (.int .i64) (.pair (.int .i64) (.pair (.int .i64) (.int .i64)))))) (.bx (.int .i64))))], outs := [.own (.int .i64), .val (.int .i64), .val .bool], F := fun x => impl_firstLeast_impl_BestReleased_1 N x.1 x.2.1 }
theorem impl_firstLeast_impl_BestReleased_1_sound (N : Nat) : SoundC Try.prog 74 (impl_firstLeast_impl_BestReleased_1_e N) := least_sound2 (slices_Clone_int64_int64_sound N) (impl_BestReleased_1_c0_sound N)

/- impl.BestReleased -/
def impl_BestReleased (N : Nat) (x0 : List (Int × Int × Int × Int)) (x1 : Int) : Option (List (Int) × Int × Bool × Unit) :=
  Option.bind (impl_AreJobs N x0) fun r1 =>
  cond (!r1.1)
    (some ([], 0, false, ()))
    (cond (decide ((List.length x0 : Int) > 6))
      (some ([], 0, false, ()))
      (Option.bind (impl_within N x1 0 4) fun r2 =>
      cond (!r2.1)
        (some ([], 0, false, ()))
        (Option.bind (impl_firstLeast_impl_BestReleased_1 N (List.length x0 : Int) (x0, x1)) fun r3 =>
        some (r3.1, r3.2.1, r3.2.2.1, ()))))
def impl_BestReleased_e (N : Nat) : Ent := { ins := [(.sl (.pair (.int .i64) (.pair (.int .i64) (.pair (.int .i64) (.int .i64))))), (.int .i64)], outs := [.own (.int .i64), .val (.int .i64), .val .bool], F := fun x => impl_BestReleased N x.1 x.2.1 }
def impl_BestReleased_T (N : Nat) : Nat → List EntX
  | 64 => [.pl (impl_AreJobs_e N)]
  | 65 => [.pl (impl_within_e N)]
  | 74 => [.pl (impl_firstLeast_impl_BestReleased_1_e N)]
  | _ => []
def impl_BestReleased_L : Nat → List (Nat × TK) := fun _ => []
theorem impl_BestReleased_eq (N : Nat) : runF N tt (impl_BestReleased_T N) impl_BestReleased_L [(.sl (.pair (.int .i64) (.pair (.int .i64) (.pair (.int .i64) (.int .i64))))), (.int .i64)] [.own (.int .i64), .val (.int .i64), .val .bool] (bodyOf Try.f41) Try.f41.ntmps [4, 5, 6] = (impl_BestReleased_e N).F := by
  funext x
  kernel_rfl
theorem impl_BestReleased_sound (N : Nat) : SoundC Try.prog 41 (impl_BestReleased_e N) := by
  have h := runF_sound (f := 41) (code := bodyOf Try.f41) (N := N) (T := (impl_BestReleased_T N)) (L := impl_BestReleased_L) (ins := [(.sl (.pair (.int .i64) (.pair (.int .i64) (.pair (.int .i64) (.int .i64))))), (.int .i64)]) (outs := [.own (.int .i64), .val (.int .i64), .val .bool]) (res := [4, 5, 6]) mixed tt_ok ?_ Try.func41 (by kernel_rfl) rfl (by kernel_rfl) (by kernel_rfl) (by decide +kernel)
  · rw [impl_BestReleased_eq] at h
    exact h
  · intro f e he
    unfold impl_BestReleased_T at he
    split at he
    · rw [List.mem_singleton.1 he]; exact impl_AreJobs_sound N
    · rw [List.mem_singleton.1 he]; exact impl_within_sound N
    · rw [List.mem_singleton.1 he]; exact impl_firstLeast_impl_BestReleased_1_sound N
    · cases he

/- laws.FnExactBestReleased -/
def laws_FnExactBestReleased (N : Nat) (x0 : List (Int × Int × Int × Int)) (x1 : Int) : Option (Bool × Unit) :=
  Option.bind (laws_szJobS N x0 1048576) fun r1 =>
  cond (decide (r1.1 < 0))
    (some (true, ()))
    (Option.bind (laws_toJobS N x0) fun r2 =>
    Option.bind (spec_BestReleased N r2.1 x1) fun r3 =>
    Option.bind (laws_toJobS N x0) fun r4 =>
    Option.bind (impl_BestReleased N r4.1 x1) fun r5 =>
    Option.bind (laws_eqInt64S N r5.1 r3.1) fun r6 =>
    cond (!r6.1)
      (some (false, ()))
      (cond (r5.2.1 != r3.2.1)
        (some (false, ()))
        (cond (!(r5.2.2.1 == r3.2.2.1))
          (some (false, ()))
          (Option.bind (laws_toJobS N x0) fun r7 =>
          Option.bind (laws_eqJobS N r4.1 r7.1) fun r8 =>
          cond (!r8.1)
            (some (false, ()))
            (Option.bind (laws_markJobS_d r4.1 1) fun r9 =>
            cond (decide (r9 < 0))
              (some (false, ()))
              (Option.bind (laws_eqInt64S N r5.1 r3.1) fun r10 =>
              cond (!r10.1)
                (some (false, ()))
                (cond (r5.2.1 != r3.2.1)
                  (some (false, ()))
                  (cond (!(r5.2.2.1 == r3.2.2.1))
                    (some (false, ()))
                    (Option.bind (laws_markInt64S N r5.1 1) fun r11 =>
                    cond (Nat.beq (List.length r11.1) (List.length r5.1))
                      (Option.bind (laws_heldInt64S N r11.1 1) fun r12 =>
                      cond (decide (r12.1 < 0))
                        (some (false, ()))
                        (cond (r12.1 != r11.2.1)
                          (some (false, ()))
                          (Option.bind (laws_toJobS N x0) fun r13 =>
                          Option.bind (impl_BestReleased N r13.1 x1) fun r14 =>
                          Option.bind (laws_eqInt64S N r14.1 r3.1) fun r15 =>
                          cond (!r15.1)
                            (some (false, ()))
                            (cond (r14.2.1 != r3.2.1)
                              (some (false, ()))
                              (cond (!(r14.2.2.1 == r3.2.2.1))
                                (some (false, ()))
                                (Option.bind (laws_heldInt64S N r11.1 1) fun r16 =>
                                cond (decide (r16.1 < 0))
                                  (some (false, ()))
                                  (cond (r16.1 != r11.2.1)
                                    (some (false, ()))
                                    (some (true, ()))))))))) none)))))))))
def laws_FnExactBestReleased_e (N : Nat) : Ent := { ins := [(.sl (.pair (.int .i64) (.pair (.int .i64) (.pair (.int .i64) (.int .i64))))), (.int .i64)], outs := [.val .bool], F := fun x => laws_FnExactBestReleased N x.1 x.2.1 }
def laws_FnExactBestReleased_T (N : Nat) : Nat → List EntX
  | 16 => [.pl (laws_eqInt64S_e N)]
  | 17 => [.mu (laws_markInt64S_e N)]
  | 18 => [.pl (laws_heldInt64S_e N)]
  | 32 => [.pl (laws_szJobS_e N)]
  | 34 => [.pl (laws_toJobS_e N)]
  | 36 => [.pl (laws_eqJobS_e N)]
  | 37 => [.dp (laws_markJobS_d_e N)]
  | 40 => [.pl (spec_BestReleased_e N)]
  | 41 => [.pl (impl_BestReleased_e N)]
  | _ => []
def laws_FnExactBestReleased_L : Nat → List (Nat × TK) := fun _ => []
theorem laws_FnExactBestReleased_eq (N : Nat) : runL N tt (laws_FnExactBestReleased_T N) laws_FnExactBestReleased_L [(.sl (.pair (.int .i64) (.pair (.int .i64) (.pair (.int .i64) (.int .i64))))), (.int .i64)] [.val .bool] (bodyOf Try.f12) Try.f12.ntmps [4] = (laws_FnExactBestReleased_e N).F := by
  funext x
  kernel_rfl
theorem laws_FnExactBestReleased_sound (N : Nat) : SoundC Try.prog 12 (laws_FnExactBestReleased_e N) := by
  have h := runL_sound (f := 12) (code := bodyOf Try.f12) (N := N) (T := (laws_FnExactBestReleased_T N)) (L := laws_FnExactBestReleased_L) (ins := [(.sl (.pair (.int .i64) (.pair (.int .i64) (.pair (.int .i64) (.int .i64))))), (.int .i64)]) (outs := [.val .bool]) (res := [4]) mixed tt_ok ?_ Try.func12 (by kernel_rfl) rfl (by kernel_rfl) (by kernel_rfl) (by decide +kernel)
  · rw [laws_FnExactBestReleased_eq] at h
    exact h
  · intro f e he
    unfold laws_FnExactBestReleased_T at he
    split at he
    · rw [List.mem_singleton.1 he]; exact laws_eqInt64S_sound N
    · rw [List.mem_singleton.1 he]; exact laws_markInt64S_sound N
    · rw [List.mem_singleton.1 he]; exact laws_heldInt64S_sound N
    · rw [List.mem_singleton.1 he]; exact laws_szJobS_sound N
    · rw [List.mem_singleton.1 he]; exact laws_toJobS_sound N
    · rw [List.mem_singleton.1 he]; exact laws_eqJobS_sound N
    · rw [List.mem_singleton.1 he]; exact laws_markJobS_d_sound N
    · rw [List.mem_singleton.1 he]; exact spec_BestReleased_sound N
    · rw [List.mem_singleton.1 he]; exact impl_BestReleased_sound N
    · cases he

end Go.Proofs.Ytkcdhdnmmpapdaa
